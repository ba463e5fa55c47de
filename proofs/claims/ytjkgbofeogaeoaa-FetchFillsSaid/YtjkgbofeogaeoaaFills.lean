/- The walk of skaldlaw23.FetchFills. -/
import Derived.Test.YtjkgbofeogaeoaaFillsL
import Derived.Test.YtjkgbofeogaeoaaAnswers
namespace Go.Proofs.Ytjkgbofeogaeoaa
open Go.RowKit

theorem QOwn.mono {w : World} {B B' : Nat} {v : Value} {l : List Mc} (h : QOwn w B v l) (hB : B' ≤ B) : QOwn w B' v l := by
  refine ⟨h.1, ?_⟩
  rcases h.2 with hn | ⟨g, cap, cur, hv, hg, r⟩
  · exact .inl hn
  · exact .inr ⟨g, cap, cur, hv, Nat.le_trans hB hg, r⟩
/-- A log, that of the document, and a copy of the messages. -/
structure FI (w : World) (D b : Nat) (s : Ls) (c R : Nat) (v : Value) (l : List (Int × ByteArray)) (t : Ls) (A1 : Option Addr) (n C1 : Nat) (ms : List Mc) (W : World) : Prop where
  x : LG (fun z => z = R ∨ v.ownBlock = some z ∨ (Value.slice A1 n C1).ownBlock = some z) w D b s c W
  y : RefAt w.heap.size W R v l 10000 t
  q : QOwn W w.heap.size (.slice A1 n C1) ms
  far : ∀ g, (Value.slice A1 n C1).ownBlock = some g → g ≠ R ∧ v.ownBlock ≠ some g
section
variable {w w1 w2 w3 W W' : World} {D b c c' R n C1 : Nat} {s s' t t' : Ls} {v r : Value} {l : List (Int × ByteArray)} {A1 : Option Addr} {ms : List Mc} {e : Ending}
theorem FI.of (h1 : LG (fun _ => False) w D b s c w1) (h2 : RefAt w1.heap.size w2 R v l 100 t) (hb2 : Below w1.heap.size w1 w2) (h3 : QOwn w3 w2.heap.size (.slice A1 n C1) ms) (hb3 : Below w2.heap.size w2 w3) : FI w D b s c R v l t A1 n C1 ms w3 := by
  have z1 := h1.out.size
  have z2 := hb2.size
  have z3 := hb3.size
  have hR := lt_of_blk h2.blk
  have hlo := h2.lo
  refine ⟨h1.more (belowStep hb2 hb3) (fun z hz => .inr ?_), (h2.below hb3).mono z1 (by decide), h3.mono (by omega), fun g hg => ?_⟩
  · rcases hz with rfl | hz | hz
    · omega
    · have := World.ownsRow.lt h2.own z hz; omega
    · have := World.ownsRow.lt h3 z hz; omega
  · have h4 := World.ownsRow.lt h3 g hg
    exact ⟨by omega, fun e => by have := World.ownsRow.lt h2.own g e; omega⟩
theorem FI.fill (h : FI w D b s c R v l t A1 n C1 ms W) (hl : LG (fun z => z = R ∨ v.ownBlock = some z ∨ (Value.slice A1 n C1).ownBlock = some z) w D b s' c' W') (hU : Upd (Off (fun z => z = R ∨ v.ownBlock = some z ∨ (Value.slice A1 n C1).ownBlock = some z) w) W W') : FI w D b s' c' R v l t A1 n C1 ms W' :=
  ⟨hl, h.y.upd hU (fun f => f.2 (.inl rfl)) (fun _ hg f => f.2 (.inr (.inl hg))), h.q.upd hU (fun _ hg f => f.2 (.inr (.inr hg))), h.far⟩
end
/-- The same, behind both calls of Fill. -/
structure FJ (w : World) (D : Nat) (s : Ls) (R : Nat) (v : Value) (l : List (Int × ByteArray)) (t : Ls) (A1 : Option Addr) (n C1 : Nat) (ms : List Mc) (W : World) : Prop where
  x : LogIn W D s
  y : RefAt w.heap.size W R v l 100000 t
  q : MV W A1 n C1 ms
  out : Below w.heap.size w W
theorem FJ.below {w W W' : World} {D R n C1 : Nat} {s t : Ls} {v : Value} {l : List (Int × ByteArray)} {A1 : Option Addr} {ms : List Mc} (h : FJ w D s R v l t A1 n C1 ms W) (hb : Below W.heap.size W W') : FJ w D s R v l t A1 n C1 ms W' := ⟨h.x.below hb, h.y.below hb, h.q.below hb, belowStep h.out hb⟩
theorem FI.rfill {w W W' : World} {D b c c' R n C1 : Nat} {s t t' : Ls} {v r : Value} {l : List (Int × ByteArray)} {A1 : Option Addr} {ms : List Mc} {e : Ending} (h : FI w D b s c R v l t A1 n C1 ms W) (hn : ms.length = n) (hc : c' ≤ 100000) (hr : RefTo w.heap.size W R v r c' t' e W') : e = .returned r ∧ ∃ v' l', FJ w D s R v' l' t' A1 n C1 ms W' := by
  obtain ⟨rfl, v', l', h1, h2, -⟩ := hr
  have hF : ∀ x, (x = R ∨ v.ownBlock = some x) → w.heap.size ≤ x := fun x hx => by
    rcases hx with rfl | hx
    · exact h.y.lo
    · exact (World.ownsRow.lt h.y.own x hx).1
  refine ⟨rfl, v', l', (h.x.upd h2 (fun f => ?_) (fun f => ?_) hF).inn, h1.mono (Nat.le_refl _) hc, (h.q.upd h2 (fun g hg f => ?_)).mv hn, belowUpd h.x.out h2 hF⟩
  · rcases f with f | f
    · exact (h.x.kept R (.inl rfl)).2.1 f.symm
    · exact (h.x.kept D (.inr (.inl f))).2.1 rfl
  · rcases f with f | f
    · exact (h.x.kept R (.inl rfl)).2.2 f.symm
    · exact (h.x.kept b (.inr (.inl f))).2.2 rfl
  · rcases f with f | f
    · exact (h.far g hg).1 f
    · exact (h.far g hg).2 f
set_option maxRecDepth 20000 in
set_option maxHeartbeats 8000000 in
theorem fetchFills_walk (B S Sd : Nat) (A : Option Addr) (n C : Nat) (ms : List Mc) (w : World) (hB : B ≤ 255) (hS : S < 18446744073709551616) (hSd : Sd ≤ 255) (hm : MV w A n C ms) (h0 : A = none → C = 0) (hin : ∀ m ∈ ms, MIn w m) :
    Calls Try.prog 19 #[.agg #[.int .u8 (B : Int), .int .u64 (S : Int), .int .u8 (Sd : Int)], .slice A n C] w fun e w' => e = .returned (.bool true) ∧ Below w.heap.size w w' := by
  have HM := Lib.hid (fun W => made47 B S Sd W hB hS hSd)
  have HR := Lib.hid (fun W => made60 B S Sd W hB hS hSd)
  have hC9 : C ≤ 9223372036854775807 := hm.max
  have hnC := hm.le
  have HMV := Lib.hid (And.intro hm (And.intro h0 hin))
  clear hm h0 hin
  go_enter Try.func19, Try.ntmps19
  go_upto_region 1 with (fail)
  obtain ⟨X, hX⟩ : ∃ X, w.heap.size = X := ⟨_, rfl⟩
  obtain ⟨W0, hW0⟩ : ∃ W0, w.alloc (.cells #[.int .u8 (B : Int), .int .u64 (S : Int), .int .u8 (Sd : Int)] 66) = W0 := ⟨_, rfl⟩
  have hb0 : Below w.heap.size w W0 := by rw [← hW0]; exact (Below.refl _ _).alloc (Nat.le_refl _) _
  have k0 : W0.heap[X]? = some (.cells #[.int .u8 (B : Int), .int .u64 (S : Int), .int .u8 (Sd : Int)] 66) := by rw [← hW0, ← hX]; exact blk_new _ _
  rw [hW0, hX]
  have H0 := Lib.hid (And.intro hb0 k0)
  clear hb0 k0 hW0 hX
  go_wp2_with fail
  go_loopw [5, 6, 7] (fun av bv iv wr => ∃ (k : Nat) (x y : Int), k ≤ n ∧ iv = .int .i64 (k : Int) ∧ av = .int .i64 x ∧ bv = .int .i64 y ∧ W0 = wr) (fun _ _ iv _ => n - (intOf iv).toNat)
  case atStart => exact ⟨0, 0, 0, Nat.zero_le _, rfl, rfl, rfl, by first | rfl | trivial⟩
  case round =>
    obtain ⟨k, x, y, hk, rfl, rfl, rfl, rfl⟩ := hrel
    by_cases hlt : k < n ∧ k < 101
    · obtain ⟨hlt, hk1⟩ := hlt
      have hkl : k < ms.length := by rw [HMV.out.1.len]; exact hlt
      obtain ⟨m, hmk⟩ : ∃ m, ms[k]? = some m := ⟨_, List.getElem?_eq_getElem hkl⟩
      obtain ⟨g, off, rfl, hg, y0, y1, y2, y3, y4, y5, y6, y7, y8⟩ := (HMV.out.1.below H0.out.1).row k m hmk
      have hv9 : m.val.size ≤ 9223372036854775807 := (HMV.out.2.2 m (List.mem_of_getElem? hmk)).val
      clear hmk hkl
      go_wp2
      go_roundw
      case rel => exact ⟨k + 1, _, _, hlt, by go_num, rfl, rfl, by first | rfl | trivial⟩
      case measure => simp [intOf]; omega
    · by_cases hbig : 100 < n
      · by_cases hkn : k < n
        · have hk1 : ¬ k < 101 := fun h => hlt ⟨hkn, h⟩
          clear hlt
          go_wp2_with fail
          refine (works23_any _).mono ?_
          rintro e w7 ⟨rfl, hb7⟩
          have H7 := Lib.hid (belowStep H0.out.1 hb7)
          clear hb7
          go_wp2
          go_ret
          exact ⟨by simp, H7.out⟩
        · clear hlt
          go_wp2_with fail
          refine (works23_any _).mono ?_
          rintro e w7 ⟨rfl, hb7⟩
          have H7 := Lib.hid (belowStep H0.out.1 hb7)
          clear hb7
          go_wp2
          go_ret
          exact ⟨by simp, H7.out⟩
      · obtain rfl : k = n := by omega
        clear hlt
        by_cases hx : 200000 < x
        · go_wp2_with fail
          refine (works23_any _).mono ?_
          rintro e w7 ⟨rfl, hb7⟩
          have H7 := Lib.hid (belowStep H0.out.1 hb7)
          clear hb7
          go_wp2
          go_ret
          exact ⟨by simp, H7.out⟩
        · by_cases hy : 100 < y
          · go_wp2_with fail
            refine (works23_any _).mono ?_
            rintro e w7 ⟨rfl, hb7⟩
            have H7 := Lib.hid (belowStep H0.out.1 hb7)
            clear hb7
            go_wp2
            go_ret
            exact ⟨by simp, H7.out⟩
          · have a0 := cell_blk H0.out.2 0
            have a1 := cell_blk H0.out.2 1
            have a2 := cell_blk H0.out.2 2
            simp at a0 a1 a2
            have zX := lt_of_blk H0.out.2
            go_upto_region 9 with (fail)
            go_region_held3 (fun w' => w'.cell? ⟨X, 0, none⟩ = some (.int .u8 (B : Int)) ∧ w'.cell? ⟨X, 1, none⟩ = some (.int .u64 (S : Int)) ∧ w'.cell? ⟨X, 2, none⟩ = some (.int .u8 (Sd : Int))) (first | go_keep | (refine ⟨?_, ?_, ?_⟩ <;> assumption)) ((first
              | (go_at_call 60
                 (with_reducible refine (HR.out _).mono ?_)
                 rintro e w2 ⟨R, v, l, t, rfl, h2, ht, hb2⟩
                 have H2 := Lib.hid (And.intro h2 (And.intro ht hb2))
                 have hk2 := blk_below' H1.out.2.2.2 hb2
                 clear h2 ht hb2 a0 a1 a2 zX
                 have a0 := cell_blk hk2 0
                 have a1 := cell_blk hk2 1
                 have a2 := cell_blk hk2 2
                 simp at a0 a1 a2
                 have zX := lt_of_blk hk2
                 clear hk2)
              | (go_at_call 47
                 (with_reducible refine (HM.out _).mono ?_)
                 rintro e w1 ⟨D, b, s, rfl, h1, hs⟩
                 have hbd := bdrew h1.out
                 have hk1 := blk_below' H0.out.2 hbd
                 have hx1 := h1.since (w0 := w) (G' := fun _ => False) (by first | exact H0.out.1 | exact H0.out.1.drew) (fun x f => f.elim)
                 have H1 := Lib.hid (And.intro hs (And.intro hx1 (And.intro (belowStep H0.out.1 hbd) hk1)))
                 clear h1 hx1 hs hbd a0 a1 a2 zX
                 have a0 := cell_blk hk1 0
                 have a1 := cell_blk hk1 1
                 have a2 := cell_blk hk1 2
                 simp at a0 a1 a2
                 have zX := lt_of_blk hk1
                 clear hk1)))
            clear a0 a1 a2 zX
            have hk9 : k ≤ 4096 := by omega
            obtain ⟨cn, er, s', t', hs', ht', hf', hb'⟩ : ∃ cn er s' t', fillR s ms = (cn, er, s') ∧ fillR t ms = (cn, er, t') ∧ s'.f = t'.f ∧ s'.base = t'.base := by
              obtain ⟨e1, e2, -⟩ := H1.out.1.same H2.out.2.1 H1.out.2.1.ok H2.out.1.ok
              exact fill_as e1 e2 ms
            have HS := Lib.hid (And.intro hs' (And.intro ht' (And.intro hf' hb')))
            clear hs' ht' hf' hb'
            go_wp2_with fail
            refine (clone65 (HMV.out.1.below (belowStep H1.out.2.2.1 H2.out.2.2)) HMV.out.2.1 (by omega)).mono ?_
            rintro e w3 ⟨A1, C1, rfl, h3, hb3⟩
            have H3 := Lib.hid (FI.of H1.out.2.1 H2.out.1 H2.out.2.2 h3 hb3)
            clear h3 hb3
            go_wp2_with fail
            refine (fill_x H3.out.x (H3.out.q.mv HMV.out.1.len) hk9 (by omega) cn er s' HS.out.1).mono ?_
            rintro e w4 ⟨rfl, h4, hu4⟩
            have H4 := Lib.hid (H3.out.fill h4 hu4)
            clear h4 hu4
            go_wp2_with fail
            refine (rfill66 H4.out.y H4.out.x.out.size (HMV.out.1.below H4.out.x.out) hk9 (by omega)).mono ?_
            intro e w5 h5
            rw [HS.out.2.1] at h5
            obtain ⟨rfl, v5, l5, h5⟩ := H4.out.rfill HMV.out.1.len (by omega) h5
            have H5 := Lib.hid h5
            clear h5
            go_wp2_with fail
            refine (eqfunc63 A1 A k C1 C ms ms _ H5.out.q (HMV.out.1.below H5.out.out) (fun i x y hx hy => by
              rw [hx] at hy
              cases hy
              obtain ⟨E, hE⟩ := (HMV.out.2.2 x (List.mem_of_getElem? hx)).ents
              exact ⟨rfl, rfl, rfl, rfl, rfl, rfl, rfl, rfl, rfl, E, hE.below H5.out.out, hE.below H5.out.out⟩)).mono ?_
            rintro e w6 ⟨rfl, hb6⟩
            have H6 := Lib.hid (H5.out.below hb6)
            clear hb6
            go_wp2_with fail
            refine (alike64 H6.out.x H6.out.y (by decide) HS.out.2.2.1 HS.out.2.2.2).mono ?_
            rintro e w' ⟨rfl, rfl⟩
            go_wp2_with fail
            go_loopw [99] (fun iv wr => ∃ j : Nat, j ≤ k ∧ iv = .int .i64 (j : Int) ∧ Below w6.heap.size w6 wr) (fun iv _ => k - (intOf iv).toNat)
            case atStart => exact ⟨0, Nat.zero_le _, rfl, Below.refl _ _⟩
            case round =>
              obtain ⟨j, hj, rfl, hb⟩ := hrel
              have HJ := Lib.hid (H6.out.below hb)
              have HB := Lib.hid hb
              clear hb
              by_cases hlt : j < k
              · have hkl : j < ms.length := by rw [HMV.out.1.len]; exact hlt
                obtain ⟨m, hmk⟩ : ∃ m, ms[j]? = some m := ⟨_, List.getElem?_eq_getElem hkl⟩
                obtain ⟨g, off, rfl, hg, y0, y1, y2, y3, y4, y5, y6, y7, y8⟩ := (HMV.out.1.below HJ.out.out).row j m hmk
                have hsl := (HMV.out.2.2 m (List.mem_of_getElem? hmk)).slot
                clear hmk hkl
                obtain ⟨mk, mf, mt, mr, mn, mo, mu, mv, la, ln, lc⟩ := m
                simp only at y0 y1 y2 y3 y4 y5 y6 y7 y8 hsl
                go_upto_region 18 with (fail)
                obtain ⟨Z, hZ⟩ : ∃ Z, wr.heap.size = Z := ⟨_, rfl⟩
                obtain ⟨W1, hW1⟩ : ∃ W1, wr.alloc (.cells #[.int .i64 mk, .int .i64 mf, .int .i64 mt, .int .i64 mr, .int .i64 mn, .int .i64 mo, .int .i64 mu, .string mv, .slice la ln lc] 74) = W1 := ⟨_, rfl⟩
                have hb1 : Below wr.heap.size wr W1 := by rw [← hW1]; exact (Below.refl _ _).alloc (Nat.le_refl _) _
                have k1 : W1.heap[Z]? = some (.cells #[.int .i64 mk, .int .i64 mf, .int .i64 mt, .int .i64 mr, .int .i64 mn, .int .i64 mo, .int .i64 mu, .string mv, .slice la ln lc] 74) := by rw [← hW1, ← hZ]; exact blk_new _ _
                have HW := Lib.hid (And.intro (HJ.out.below hb1) (belowStep HB.out hb1))
                rw [hW1, hZ]
                have x5 := cell_blk k1 5
                simp at x5
                have zZ := lt_of_blk k1
                clear hb1 k1 hW1 hZ y0 y1 y2 y3 y4 y5 y6 y7 y8 hg
                obtain ⟨u, hu⟩ : ∃ u, (s'.f mo).getD ⟨#[]⟩ = u := ⟨_, rfl⟩
                obtain ⟨q, hq⟩ : ∃ q, (s'.f mo).isSome = q := ⟨_, rfl⟩
                have HG := Lib.hid (And.intro (inn_get HW.out.1.x mo hsl u q hu hq) (rget_v HW.out.1.y (by decide) mo u q (by rw [← HS.out.2.2.1]; exact hu) (by rw [← HS.out.2.2.1]; exact hq)))
                clear hu hq hsl
                go_wp2_with (first
                  | (go_at_call 32; refine HG.out.1.mono ?_; rintro e w' ⟨rfl, rfl⟩)
                  | (go_at_call 67; refine HG.out.2.mono ?_; rintro e w' ⟨rfl, rfl⟩))
                go_roundw
                case rel => exact ⟨j + 1, hlt, by go_num, HW.out.2⟩
                case measure => simp [intOf]; omega
              · go_wp2_with fail
                refine (works23_any _).mono ?_
                rintro e w7 ⟨rfl, hb7⟩
                have H7 := Lib.hid (belowStep HJ.out.out hb7)
                clear hb7
                go_wp2
                go_ret
                exact ⟨by simp, H7.out⟩
end Go.Proofs.Ytjkgbofeogaeoaa
