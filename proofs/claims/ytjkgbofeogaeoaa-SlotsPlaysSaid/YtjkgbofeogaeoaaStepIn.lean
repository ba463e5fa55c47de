/- Steps that came in: their reading; the contract of few. -/
import Derived.Test.YtjkgbofeogaeoaaRef8
import Derived.Deep.Slices
import Derived.Deep.Strs
namespace Go.Proofs.Ytjkgbofeogaeoaa
open Go.RowKit Go.Shelf Go.ChangeShapes Go.WideShapes Go.ChangeAt

theorem stp_spot {b off : Nat} {spot} {w : World} {v : Value} (h : w.cell? ⟨b, off, spot⟩ = some v) : spot = none := by
  cases spot with
  | none => rfl
  | some s =>
    unfold World.cell? at h
    split at h <;> simp at h
theorem stp_at {α : Type} (en : α → List Value) (k : Nat) (hen : ∀ s, (en s).length = k) (ss : List α) (i : Nat) (s : α) (h : ss[i]? = some s) : ∀ j, j < k → (ss.flatMap en)[i * k + j]? = (en s)[j]? := by
  induction ss generalizing i with
  | nil => simp at h
  | cons t r ih =>
    intro j hj
    rw [List.flatMap_cons]
    cases i with
    | zero =>
      simp at h
      subst h
      rw [Nat.zero_mul, Nat.zero_add, List.getElem?_append_left (by rw [hen]; exact hj)]
    | succ i =>
      simp at h
      have e : (i + 1) * k = k + i * k := by rw [Nat.succ_mul, Nat.add_comm]
      rw [List.getElem?_append_right (by rw [hen, e]; omega), hen, show (i + 1) * k + j - k = i * k + j by rw [e]; omega]
      exact ih i h j hj
theorem stp_len {α : Type} (en : α → List Value) (k : Nat) (hen : ∀ s, (en s).length = k) (ss : List α) : (ss.flatMap en).length = ss.length * k := by
  induction ss with
  | nil => simp
  | cons t r ih => rw [List.flatMap_cons, List.length_append, hen, ih, List.length_cons, Nat.succ_mul, Nat.add_comm]
theorem stp_row {H : Type} {enc : TypeId × Value → H} {W : World} {base : Nat} {held : Bool} {α : Type} (en : α → List Value) (k : Nat) (hk : 0 < k) (hen : ∀ s, (en s).length = k) (good : α → Prop) {T E : TypeId}
    (hT : Try.prog.underlying T = some (.slice E)) (hc : Try.prog.cellsOf E = k)
    (hone : ∀ {fuel : Nat} {cs : List Value} {x : DataW H × List MemPlace}, DataW.trod enc Try.prog W base (fun _ => true) held fuel E cs = some x → ∃ s, cs = en s ∧ good s)
    {fuel : Nat} {cs : List Value} {x : DataW H × List MemPlace} (h : DataW.trod enc Try.prog W base (fun _ => true) held fuel T cs = some x) :
    ∃ (a : Option Addr) (n cap : Nat) (ss : List α), cs = [.slice a n cap] ∧ ss.length = n ∧ n ≤ cap ∧ cap ≤ maxLen ∧ (a = none → cap = 0) ∧ (∀ s ∈ ss, good s) ∧
      (ss = [] ∨ ∃ b off, a = some ⟨b, off, none⟩ ∧ b < W.heap.size ∧ ∀ j u, (ss.flatMap en)[j]? = some u → W.cell? ⟨b, off + j, none⟩ = some u) := by
  rcases Deep.open_slice hT h with ⟨rfl, _⟩ | ⟨ad, n, cap, m, k', D, Pl, rfl, hb, hl, hm, hmm, _, hi⟩
  · exact ⟨none, 0, 0, [], rfl, rfl, Nat.le_refl _, Nat.zero_le _, fun _ => rfl, (fun s h => by cases h), .inl rfl⟩
  · simp only [if_true] at hmm
    subst hmm
    rw [hc] at hi
    obtain ⟨b, off, spot⟩ := ad
    by_cases h0 : n = 0
    · exact ⟨_, n, m, [], rfl, h0.symm, hl, hm, fun h => (by cases h), (fun s h => by cases h), .inl rfl⟩
    have each : ∀ r, r < n → ∃ s : α, good s ∧ ∀ j, j < k → W.cell? ((Addr.mk b off spot).add (r * k) |>.add j) = (en s)[j]? := by
      intro r hr
      obtain ⟨cs', e1, e2⟩ := hi r (by omega)
      obtain ⟨e3, e4, e5⟩ := World.cells?_some e1
      obtain ⟨s, rfl, f1⟩ := hone e2
      exact ⟨s, f1, fun j hj => e5 j hj⟩
    have hch : ∀ q, q ≤ n → ∃ ss : List α, ss.length = q ∧ ∀ r s, ss[r]? = some s → good s ∧ ∀ j, j < k → W.cell? ((Addr.mk b off spot).add (r * k) |>.add j) = (en s)[j]? := by
      intro q
      induction q with
      | zero => exact fun _ => ⟨[], rfl, fun r s hr => by simp at hr⟩
      | succ q ih =>
        intro hq
        obtain ⟨ss, e1, e2⟩ := ih (by omega)
        obtain ⟨t, f⟩ := each q (by omega)
        refine ⟨ss ++ [t], by simp [e1], fun r s hr => ?_⟩
        rcases Nat.lt_or_ge r q with h | h
        · rw [List.getElem?_append_left (by omega)] at hr; exact e2 r s hr
        · rw [List.getElem?_append_right (by omega), e1] at hr
          have : r - q = 0 := by
            have := (List.getElem?_eq_some_iff.1 hr).1
            simp at this; omega
          rw [this] at hr
          obtain rfl : r = q := by omega
          cases hr
          exact f
    obtain ⟨ss, e1, e2⟩ := hch n (Nat.le_refl _)
    have hs : spot = none := by
      obtain ⟨s, f1, f2⟩ := each 0 (by omega)
      have g0 := f2 0 hk
      rw [Nat.zero_mul] at g0
      obtain ⟨v, hv⟩ : ∃ v, (en s)[0]? = some v := ⟨_, List.getElem?_eq_getElem (by rw [hen]; exact hk)⟩
      exact stp_spot (b := b) (off := off) (w := W) (v := v) (by rw [hv] at g0; unfold Addr.add at g0; simpa using g0)
    subst hs
    have hcell : ∀ j u, (ss.flatMap en)[j]? = some u → W.cell? ⟨b, off + j, none⟩ = some u := by
      intro j u hu
      have hj := (List.getElem?_eq_some_iff.1 hu).1
      rw [stp_len en k hen, e1] at hj
      have hd : j / k < n := Nat.div_lt_of_lt_mul (by rw [Nat.mul_comm]; exact hj)
      obtain ⟨s, hs⟩ : ∃ s, ss[j / k]? = some s := ⟨_, List.getElem?_eq_getElem (by rw [e1]; exact hd)⟩
      have hm2 := Nat.mod_lt j hk
      have hdm : j / k * k + j % k = j := by rw [Nat.mul_comm]; exact Nat.div_add_mod j k
      have g := (e2 _ _ hs).2 (j % k) hm2
      have g2 := stp_at en k hen ss _ _ hs (j % k) hm2
      rw [hdm] at g2
      rw [← g2, hu] at g
      rw [Addr.add_lit, Addr.add_lit, Nat.add_assoc, hdm] at g
      exact g
    refine ⟨_, n, m, ss, rfl, e1, hl, hm, fun h => (by cases h), fun s hs => ?_, .inr ⟨b, off, rfl, ?_, hcell⟩⟩
    · obtain ⟨i, hi, e⟩ := List.getElem_of_mem hs
      exact (e2 i s (by rw [List.getElem?_eq_getElem hi, e])).1
    · obtain ⟨v, hv⟩ : ∃ v, (ss.flatMap en)[0]? = some v := ⟨_, List.getElem?_eq_getElem (by rw [stp_len en k hen, e1]; exact Nat.mul_pos (by omega) hk)⟩
      exact World.block_lt_of_cell? _ _ (hcell 0 v hv)
/-- A step. -/
structure Stp where
  act : Int
  slot : Int
  val : ByteArray
def scs (a : Stp) : List Value := [.int .i64 a.act, .int .i64 a.slot, .string a.val]
theorem stp_three {α : Type} (l : List α) (h : l.length = 3) : ∃ a b c, l = [a, b, c] := by
  match l, h with
  | [a, b, c], _ => exact ⟨a, b, c, rfl⟩
theorem stp_wf {n : Int} (h : (Lit.int .i64 n).wf = true) : inI n := by
  simp only [Lit.wf, Bool.and_eq_true, decide_eq_true_eq] at h
  exact h
/-- What is told of a slice of steps. -/
structure TV (w : World) (A : Option Addr) (n C : Nat) (l : List Stp) : Prop where
  len : l.length = n
  le : n ≤ C
  max : C ≤ maxLen
  good : ∀ a ∈ l, inI a.slot ∧ a.val.size ≤ maxLen
  cells : l = [] ∨ ∃ b off, A = some ⟨b, off, none⟩ ∧ b < w.heap.size ∧ ∀ j u, (l.flatMap scs)[j]? = some u → w.cell? ⟨b, off + j, none⟩ = some u
theorem TV.below {w w' : World} {A : Option Addr} {n C : Nat} {l : List Stp} (h : TV w A n C l) (hb : Below w.heap.size w w') : TV w' A n C l := by
  refine ⟨h.len, h.le, h.max, h.good, ?_⟩
  rcases h.cells with e3 | ⟨b, off, f1, f2, f3⟩
  · exact .inl e3
  · exact .inr ⟨b, off, f1, Nat.lt_of_lt_of_le f2 hb.size, fun j u hu => (hb.cell (p := ⟨b, off + j, none⟩) f2).trans (f3 j u hu)⟩
theorem TV.row {w : World} {A : Option Addr} {n C : Nat} {l : List Stp} (h : TV w A n C l) (i : Nat) (a : Stp) (hi : l[i]? = some a) : ∃ b off, A = some ⟨b, off, none⟩ ∧ b < w.heap.size ∧ w.cell? ⟨b, off + i * 3, none⟩ = some (.int .i64 a.act) ∧ w.cell? ⟨b, off + i * 3 + 1, none⟩ = some (.int .i64 a.slot) ∧ w.cell? ⟨b, off + i * 3 + 2, none⟩ = some (.string a.val) := by
  rcases h.cells with rfl | ⟨b, off, h1, h2, h3⟩
  · simp at hi
  · have hk : ∀ k u, k < 3 → (scs a)[k]? = some u → w.cell? ⟨b, off + i * 3 + k, none⟩ = some u := fun k u hk hu => by
      have := h3 (i * 3 + k) u (by rw [stp_at scs 3 (fun _ => rfl) l i a hi k hk]; exact hu)
      rwa [← Nat.add_assoc] at this
    exact ⟨b, off, h1, h2, hk 0 _ (by decide) rfl, hk 1 _ (by decide) rfl, hk 2 _ (by decide) rfl⟩
theorem stp_of_trod {H : Type} {enc : TypeId × Value → H} {W : World} {base : Nat} {held : Bool} {fuel : Nat} {cs : List Value} {x : DataW H × List MemPlace} (h : DataW.trod enc Try.prog W base (fun _ => true) held fuel 54 cs = some x) : ∃ a : Stp, cs = scs a ∧ inI a.slot ∧ a.val.size ≤ maxLen := by
  obtain ⟨xs, k, _, rfl, hl, hlen, hf⟩ := DataW.trod_struct Try.underlying54 h
  obtain ⟨u0, u1, u2, rfl⟩ := stp_three cs (by rw [hl]; kernel_rfl)
  obtain ⟨y0, y1, y2, rfl⟩ := stp_three xs hlen
  have h0 := hf 0 _ rfl
  have h1 := hf 1 _ rfl
  have h2 := hf 2 _ rfl
  have c3 : Try.prog.cellsOf 3 = 1 := by kernel_rfl
  have c9 : Try.prog.cellsOf 9 = 1 := by kernel_rfl
  obtain ⟨a, e0, -, -⟩ := DataW.trod_int Try.underlying3 h0
  obtain ⟨b, e1, -, w1⟩ := DataW.trod_int Try.underlying3 h1
  obtain ⟨d, e2, -, w2⟩ := DataW.trod_string Try.underlying9 h2
  change List.take (Try.prog.cellsOf 3) _ = _ at e0
  change List.take (Try.prog.cellsOf 3) _ = _ at e1
  change List.take (Try.prog.cellsOf 9) _ = _ at e2
  rw [c3] at e0 e1
  rw [c9] at e2
  simp at e0 e1 e2
  subst e0 e1 e2
  exact ⟨⟨a, b, d⟩, rfl, stp_wf w1, w2⟩
/-- What a law is told of steps. -/
def IsSteps (w : World) (A : Option Addr) (n C : Nat) : Prop := ∃ l : List Stp, TV w A n C l
theorem isSteps_of_trod {H : Type} {enc : TypeId × Value → H} {W : World} {base : Nat} {held : Bool} {fuel : Nat} {A : Option Addr} {n C : Nat} {x : DataW H × List MemPlace} (h : DataW.trod enc Try.prog W base (fun _ => true) held fuel 48 [.slice A n C] = some x) : IsSteps W A n C := by
  obtain ⟨A', n', C', ss, e, h1, h2, h3, -, h4, h5⟩ := stp_row scs 3 (by decide) (fun _ => rfl) (fun a : Stp => inI a.slot ∧ a.val.size ≤ maxLen) Try.underlying48 (by kernel_rfl) (fun h => by
    obtain ⟨a, e, h1, h2⟩ := stp_of_trod h
    exact ⟨a, e, h1, h2⟩) h
  simp at e
  obtain ⟨rfl, rfl, rfl⟩ := e
  exact ⟨ss, h1, h2, h3, h4, h5⟩
/-- What few tells. -/
def FewTo (w : World) (n : Nat) (e : Ending) (w' : World) : Prop := ∃ b, e = .returned (.bool b) ∧ Below w.heap.size w w' ∧ (b = true → n ≤ 40)
set_option maxRecDepth 20000 in
set_option maxHeartbeats 8000000 in
theorem few38 {w : World} {A : Option Addr} {n C : Nat} {l : List Stp} (h : TV w A n C l) : Calls Try.prog 38 #[.slice A n C] w (FewTo w n) := by
  have hC9 : C ≤ 9223372036854775807 := h.max
  have hnC := h.le
  have HM := Lib.hid h
  clear h
  go_enter Try.func38, Try.ntmps38
  go_wp2_with fail
  go_loopw [3, 8] (fun xv iv wr => ∃ (j : Nat) (x : Int), j ≤ n ∧ iv = .int .i64 (j : Int) ∧ xv = .int .i64 x ∧ Below w.heap.size w wr) (fun _ iv _ => n - (intOf iv).toNat)
  case atStart => exact ⟨0, 0, Nat.zero_le _, rfl, rfl, Below.refl _ _⟩
  case round =>
    obtain ⟨j, x, hj, rfl, rfl, hb⟩ := hrel
    have HB := Lib.hid hb
    clear hb
    by_cases hlt : j < n
    · obtain ⟨m, hm⟩ : ∃ m, l[j]? = some m := ⟨_, List.getElem?_eq_getElem (by rw [HM.out.len]; exact hlt)⟩
      obtain ⟨g, off, rfl, hg, y0, y1, y2⟩ := (HM.out.below HB.out).row j m hm
      have hv9 : m.val.size ≤ 9223372036854775807 := (HM.out.good m (List.mem_of_getElem? hm)).2
      clear hm
      obtain ⟨ma, ms, mv⟩ := m
      simp only at y0 y1 y2 hv9
      by_cases h0 : ma = 0
      · subst h0
        by_cases h1 : 300 ≤ ms
        · by_cases h2 : ms < 4095
          · go_wp2
            go_ret
            exact ⟨false, rfl, belowStep HB.out ((Below.refl _ _).alloc (Nat.le_refl _) _), fun h => by cases h⟩
          · go_wp2
            go_roundw
            case rel => exact ⟨j + 1, _, hlt, by go_num, rfl, belowStep HB.out ((Below.refl _ _).alloc (Nat.le_refl _) _)⟩
            case measure => simp [intOf]; omega
        · go_wp2
          go_roundw
          case rel => exact ⟨j + 1, _, hlt, by go_num, rfl, belowStep HB.out ((Below.refl _ _).alloc (Nat.le_refl _) _)⟩
          case measure => simp [intOf]; omega
      · go_wp2
        go_roundw
        case rel => exact ⟨j + 1, _, hlt, by go_num, rfl, belowStep HB.out ((Below.refl _ _).alloc (Nat.le_refl _) _)⟩
        case measure => simp [intOf]; omega
    · obtain rfl : j = n := by omega
      by_cases h40 : j ≤ 40
      · by_cases hx : x ≤ 100000
        · go_wp2
          go_ret
          exact ⟨true, rfl, HB.out, fun _ => h40⟩
        · go_wp2
          go_ret
          exact ⟨false, rfl, HB.out, fun h => by cases h⟩
      · go_wp2
        go_ret
        exact ⟨false, rfl, HB.out, fun h => by cases h⟩
end Go.Proofs.Ytjkgbofeogaeoaa
