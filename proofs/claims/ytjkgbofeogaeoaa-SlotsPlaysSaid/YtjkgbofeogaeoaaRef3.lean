/- The contracts of the document's logs that set the base: cut, Forget, Jump. -/
import Derived.Test.YtjkgbofeogaeoaaRef2
namespace Go.Proofs.Ytjkgbofeogaeoaa
open Go.RowKit Go.Shelf Go.Maps

/-- The values from a slot on. -/
def leftL (u : Int) (l : List (Int × ByteArray)) : List (Int × ByteArray) := l.filter fun x => decide (u ≤ x.1)
theorem rget_left (u : Int) (l : List (Int × ByteArray)) (k : Int) : rget (leftL u l) k = if k < u then none else rget l k := by
  unfold leftL
  induction l with
  | nil => show (none : Option ByteArray) = if k < u then none else none; split <;> rfl
  | cons x r ih =>
    rw [List.filter_cons]
    by_cases h : u ≤ x.1
    · rw [if_pos (by simpa using h)]
      show (if x.1 = k then some x.2 else rget _ k) = if k < u then none else (if x.1 = k then some x.2 else rget r k)
      rw [ih]
      by_cases e : x.1 = k
      · rw [if_pos e, if_neg (by omega), if_pos e]
      · rw [if_neg e, if_neg e]
    · rw [if_neg (by simpa using h), ih]
      show _ = if k < u then none else (if x.1 = k then some x.2 else rget r k)
      by_cases e : k < u
      · rw [if_pos e, if_pos e]
      · rw [if_neg e, if_neg e, if_neg (by omega)]
theorem left_len (u : Int) (l : List (Int × ByteArray)) : (leftL u l).length ≤ l.length := List.length_filter_le _ _
theorem AOwn.mono {w : World} {B B' : Nat} {v : Value} {l : List (Int × ByteArray)} (h : AOwn w B v l) (hB : B' ≤ B) : AOwn w B' v l := by
  refine ⟨h.1, ?_⟩
  rcases h.2 with hn | ⟨g, cap, cur, hv, hB', r⟩
  · exact .inl hn
  · exact .inr ⟨g, cap, cur, hv, Nat.le_trans hB hB', r⟩
section
variable {B R c : Nat} {w w' : World} {v : Value} {l : List (Int × ByteArray)} {s : Ls}
set_option maxRecDepth 20000 in
set_option maxHeartbeats 2000000 in
theorem rcut89 (h : RefAt B w R v l c s) (hB : B ≤ w.heap.size) (hc : c < 1000000) (u : Int) (hu : s.base ≤ u) (hu4 : u ≤ 4096) : Calls Try.prog 89 #[.pointer (some ⟨R, 0, none⟩), .int .i64 u] w (RefTo B w R v (.tuple #[]) (c + 1) (cutS s u)) := by
  obtain ⟨n, hn⟩ : ∃ n, l.length = n := ⟨_, rfl⟩
  obtain ⟨A, C, rfl, hnC, hC⟩ := h.own.shape n hn
  have hC9 : C ≤ 9223372036854775807 := hC
  have hnc : n ≤ 1000000 := by have := h.len; omega
  have HV := Lib.hid (And.intro h hn)
  clear h hn
  go_enter Try.func89, Try.ntmps89
  go_wp2_with fail
  go_loopw [4, 5] (fun lv iv wr => ∃ (j N' : Nat) (A' : Option Addr) (C' : Nat), j ≤ n ∧ iv = .int .i64 (j : Int) ∧ lv = .slice A' N' C' ∧ (leftL u (l.take j)).length = N' ∧ N' ≤ j ∧ AOwn wr w.heap.size (.slice A' N' C') (leftL u (l.take j)) ∧ Below w.heap.size w wr) (fun _ iv _ => n - (intOf iv).toNat)
  case atStart => exact ⟨0, 0, none, 0, Nat.zero_le _, rfl, rfl, rfl, Nat.le_refl _, World.ownsRow_nil _ _ _ _, Below.refl _ _⟩
  case round =>
    obtain ⟨j, N', A', C', hj, rfl, rfl, hN, hNj, ho, hb⟩ := hrel
    have HB := Lib.hid (And.intro hN (And.intro ho hb))
    have hat := HV.out.1.below hb
    clear hN ho hb
    obtain ⟨c0, c1, c2, zR, cf⟩ := hat.cells
    by_cases hlt : j < n
    · have hjl : j < l.length := by rw [HV.out.2]; exact hlt
      obtain ⟨x, hx⟩ : ∃ x, l[j]? = some x := ⟨_, List.getElem?_eq_getElem hjl⟩
      obtain ⟨g, rfl, zg, y0, y1⟩ := hat.own.at j x hx
      have htk : l.take (j + 1) = l.take j ++ [x] := by rw [List.take_add_one, hx]; rfl
      obtain ⟨xi, xv⟩ := x
      simp only at y0 y1
      by_cases hk : u ≤ xi
      · have hfl : leftL u (l.take (j + 1)) = leftL u (l.take j) ++ [(xi, xv)] := by rw [htk]; unfold leftL; rw [List.filter_append]; simp [hk]
        obtain ⟨N2, hN2⟩ : ∃ N2, N' + 1 = N2 := ⟨_, rfl⟩
        have hgR : ∀ gg, (Value.slice A' N' C').ownBlock = some gg → w.heap.size ≤ gg ∧ gg < wr.heap.size := World.ownsRow.lt HB.out.2.1
        have HF := Lib.hid (And.intro hfl (And.intro hN2 (And.intro hgR hat)))
        clear hx hjl htk hfl hN2 hgR hat
        go_wp2_with (at_builtin; refine wpList_append_slot rfl _ _ rfl w.heap.size (.slice A' N' C') (leftL u (l.take j)) rfl (HB.out.2.1.below ((Below.refl _ _).alloc (Nat.le_refl _) _)) wr.heap.size (xi, xv) rfl (blk_new _ _) (by rw [HB.out.1]; omega) (by have := HB.out.2.2.size; simp; omega) ?_; intro v2 w2 hu2 hg2 hn2; obtain ⟨A2, C2, rfl, -, -⟩ := hu2.shape N2 (by rw [List.length_append, HB.out.1]; exact HF.out.2.1); have H2 := Lib.hid (And.intro hu2 hg2); clear hu2 hg2 hn2 c0 c1 c2 zR cf y0 y1 zg)
        go_roundw
        case rel =>
          refine ⟨j + 1, N2, A2, C2, hlt, by go_num, rfl, ?_, ?_, ?_, ?_⟩
          · rw [HF.out.1, List.length_append, HB.out.1]; exact HF.out.2.1
          · have := HF.out.2.1; omega
          · rw [HF.out.1]; exact H2.out.1
          · exact (HB.out.2.2.alloc (HB.out.2.2.size) _).grown H2.out.2 (by have := HB.out.2.2.size; simp; omega) (fun k hk => (HF.out.2.2.1 k hk).1)
        case measure => simp [intOf]; omega
      · have hfl : leftL u (l.take (j + 1)) = leftL u (l.take j) := by rw [htk]; unfold leftL; rw [List.filter_append]; simp [hk]
        have HF := Lib.hid hfl
        clear hx hjl htk hfl hat
        go_wp2
        go_roundw
        case rel => exact ⟨j + 1, N', A', C', hlt, by go_num, rfl, by rw [HF.out]; exact HB.out.1, by omega, by rw [HF.out]; exact HB.out.2.1, HB.out.2.2⟩
        case measure => simp [intOf]; omega
    · obtain rfl : j = n := by omega
      have hall : l.take j = l := by rw [← HV.out.2, List.take_length]
      rw [hall] at HB
      have HA := Lib.hid hat
      clear hat hall
      have cf1 := cf 1
      have cf2 := cf 2
      go_wp2
      go_end0
      have hRw := lt_of_blk HV.out.1.blk
      have hne : (Value.slice A' N' C').ownBlock ≠ some R := fun e => by have := (World.ownsRow.lt HB.out.2.1 R e).1; omega
      refine ⟨rfl, _, leftL u l, ⟨?_, (HB.out.2.1.mono hB).upd (F := fun z => z = R) (((Upd.refl (fun z => z = R) wr).setCell ⟨R, 2, none⟩ _ (.inl rfl)).setCell ⟨R, 1, none⟩ _ (.inl rfl)) (fun g hg e => hne (e ▸ hg)), ?_, fun k => ?_, hne, HV.out.1.ok.cut hu4 hu, HV.out.1.lo⟩, ?_, fun g hg => .inr (World.ownsRow.lt HB.out.2.1 g hg).1⟩
      · rw [show (cutS s u).base = u from rfl]; simpa using blk_set (blk_set HA.out.blk 2 (.slice A' N' C')) 1 (.int .i64 u)
      · have h1 := left_len u l
        have h2 := HV.out.1.len
        omega
      · rw [rget_left, HV.out.1.abs]; rfl
      · exact ((Upd.of_below HB.out.2.2).setCell _ _ (.inl (.inl rfl))).setCell _ _ (.inl (.inl rfl))
set_option maxRecDepth 20000 in
set_option maxHeartbeats 1000000 in
theorem rforget42 (h : RefAt B w R v l c s) (hB : B ≤ w.heap.size) (hc : c < 1000000) (u : Int) : Calls Try.prog 42 #[.pointer (some ⟨R, 0, none⟩), .int .i64 u] w (RefTo B w R v (.int .i64 (fgE s u)) (c + 1) (fgT s u)) := by
  by_cases hu : u < 0 ∨ 4096 < u
  · have HC := Lib.hid (rcheck88 h u 2 (if_pos hu))
    have hE : fgE s u = 2 := by unfold fgE; rw [if_pos hu]
    have hT : fgT s u = s := by unfold fgT; rw [if_neg (by rw [hE]; exact fun h => absurd h.1 (by decide))]
    rw [hE, hT]
    have HV := Lib.hid h
    clear h hE hT hu
    go_enter Try.func42, Try.ntmps42
    go_wp2_with (go_at_call 88; refine HC.out.mono ?_; rintro e w' ⟨rfl, rfl⟩)
    go_ret
    exact RefTo.same HV.out _
  · have HC := Lib.hid (rcheck88 h u 0 (if_neg hu))
    obtain ⟨x, hx⟩ : ∃ x, s.upto = x := ⟨_, rfl⟩
    have hup := rupto83 h (by omega)
    rw [hx] at hup
    have HU := Lib.hid hup
    clear hup
    by_cases hux : x < u
    · have hE : fgE s u = 3 := by unfold fgE; rw [if_neg hu, if_pos (by omega)]
      have hT : fgT s u = s := by unfold fgT; rw [if_neg (by rw [hE]; exact fun h => absurd h.1 (by decide))]
      rw [hE, hT]
      have HV := Lib.hid h
      clear h hE hT hu hx
      go_enter Try.func42, Try.ntmps42
      go_wp2_with (first
        | (go_at_call 88; refine HC.out.mono ?_; rintro e w' ⟨rfl, rfl⟩)
        | (go_at_call 83; refine HU.out.mono ?_; rintro e w' ⟨rfl, rfl⟩))
      go_ret
      exact RefTo.same HV.out _
    · have hE : fgE s u = 0 := by unfold fgE; rw [if_neg hu, if_neg (by omega)]
      obtain ⟨c0, c1, c2, zR, -⟩ := h.cells
      by_cases hub : s.base < u
      · have hT : fgT s u = cutS s u := fgT_ok hE hub
        rw [hE, hT]
        have HK := Lib.hid (rcut89 h hB hc u (by omega) (by omega))
        clear h hE hT hu hx
        go_enter Try.func42, Try.ntmps42
        go_wp2_with (first
          | (go_at_call 88; refine HC.out.mono ?_; rintro e w' ⟨rfl, rfl⟩)
          | (go_at_call 83; refine HU.out.mono ?_; rintro e w' ⟨rfl, rfl⟩)
          | (go_at_call 89; refine HK.out.mono ?_; rintro e w2 ⟨rfl, hr⟩; have HR := Lib.hid hr; clear hr c0 c1 c2 zR))
        go_ret
        exact ⟨rfl, HR.out⟩
      · have hT : fgT s u = s := fgT_at (by omega)
        rw [hE, hT]
        have HV := Lib.hid h
        clear h hE hT hu hx
        go_enter Try.func42, Try.ntmps42
        go_wp2_with (first
          | (go_at_call 88; refine HC.out.mono ?_; rintro e w' ⟨rfl, rfl⟩)
          | (go_at_call 83; refine HU.out.mono ?_; rintro e w' ⟨rfl, rfl⟩))
        go_ret
        exact RefTo.same HV.out _
set_option maxRecDepth 20000 in
set_option maxHeartbeats 1000000 in
theorem rjump43 (h : RefAt B w R v l c s) (hB : B ≤ w.heap.size) (hc : c < 1000000) (u : Int) : Calls Try.prog 43 #[.pointer (some ⟨R, 0, none⟩), .int .i64 u] w (RefTo B w R v (.int .i64 (jpE s u)) (c + 1) (jpT s u)) := by
  by_cases hu : u < 0 ∨ 4096 < u
  · have HC := Lib.hid (rcheck88 h u 2 (if_pos hu))
    have hE : jpE s u = 2 := by unfold jpE; rw [if_pos hu]
    have hT : jpT s u = s := by unfold jpT; rw [if_neg (by rw [hE]; decide)]
    rw [hE, hT]
    have HV := Lib.hid h
    clear h hE hT hu
    go_enter Try.func43, Try.ntmps43
    go_wp2_with (go_at_call 88; refine HC.out.mono ?_; rintro e w' ⟨rfl, rfl⟩)
    go_ret
    exact RefTo.same HV.out _
  · have HC := Lib.hid (rcheck88 h u 0 (if_neg hu))
    obtain ⟨x, hx⟩ : ∃ x, s.upto = x := ⟨_, rfl⟩
    have hup := rupto83 h (by omega)
    rw [hx] at hup
    have HU := Lib.hid hup
    clear hup
    by_cases hux : u < x
    · have hE : jpE s u = 8 := by unfold jpE; rw [if_neg hu, if_pos (by omega)]
      have hT : jpT s u = s := by unfold jpT; rw [if_neg (by rw [hE]; decide)]
      rw [hE, hT]
      have HV := Lib.hid h
      clear h hE hT hu hx
      go_enter Try.func43, Try.ntmps43
      go_wp2_with (first
        | (go_at_call 88; refine HC.out.mono ?_; rintro e w' ⟨rfl, rfl⟩)
        | (go_at_call 83; refine HU.out.mono ?_; rintro e w' ⟨rfl, rfl⟩))
      go_ret
      exact RefTo.same HV.out _
    · have hE : jpE s u = 0 := by unfold jpE; rw [if_neg hu, if_neg (by omega)]
      have hT : jpT s u = cutS s u := jpT_ok hE
      rw [hE, hT]
      have HK := Lib.hid (rcut89 h hB hc u (by have := h.ok.bu; omega) (by omega))
      clear h hE hT hu hx
      go_enter Try.func43, Try.ntmps43
      go_wp2_with (first
        | (go_at_call 88; refine HC.out.mono ?_; rintro e w' ⟨rfl, rfl⟩)
        | (go_at_call 83; refine HU.out.mono ?_; rintro e w' ⟨rfl, rfl⟩)
        | (go_at_call 89; refine HK.out.mono ?_; rintro e w2 ⟨rfl, hr⟩; have HR := Lib.hid hr; clear hr))
      go_ret
      exact ⟨rfl, HR.out⟩
end
end Go.Proofs.Ytjkgbofeogaeoaa
