/- Acts that came in, and how long their lists are: the form's reach. -/
import Derived.Test.YtkfkleafonpbgaaFew
import Derived.SizedLaws
namespace Go.Proofs.Ytkfkleafonpbgaa
open Go.RowKit Go.Shelf Go.ChangeShapes Go.WideShapes Go.ChangeAt

theorem weightsAll_mem {H : Type} {P : Program} {e : TypeId} : ∀ {l : List (DataW H)} {d : DataW H}, d ∈ l → ∀ n ∈ d.weights P e, n ∈ DataW.weightsAll P e l
  | d' :: r, d, hd, n, hn => by
    simp only [DataW.weightsAll, List.mem_append]
    rcases List.mem_cons.1 hd with rfl | h
    · exact Or.inl hn
    · exact Or.inr (weightsAll_mem h n hn)
section
variable {H : Type} {enc : TypeId × Value → H} {W : World} {base : Nat} {held : Bool}
/-- All that is weighed of a datum lies within the reach. -/
def Light (t : TypeId) (d : DataW H) : Prop := ∀ n ∈ d.weights Try.prog t, n ≤ reachBytes
theorem fit_of_trod {fuel : Nat} {a : Ac} {x : DataW H × List MemPlace} (h : DataW.trod enc Try.prog W base (fun _ => true) held fuel 29 (acs a) = some x) (hw : Light 29 x.1) : a.msg.ln ≤ 4000000000000 := by
  obtain ⟨xs, k, _, rfl, hl, hlen, hf⟩ := DataW.trod_struct Try.underlying29 h
  obtain ⟨y0, y1, y2, rfl⟩ := three' xs hlen
  have h2 := hf 2 _ rfl
  have c26 : Try.prog.cellsOf 26 = 9 := by kernel_rfl
  have e2 : ((acs a).drop 2).take (Try.prog.cellsOf 26) = rcs a.msg := by rw [c26]; rfl
  change DataW.trod _ _ _ _ _ _ _ 26 (((acs a).drop 2).take (Try.prog.cellsOf 26)) = _ at h2
  rw [e2] at h2
  have hw2 : Light 26 y2.1 := fun n hn => hw n (by
    simp only [DataW.weights, Try.underlying29]
    exact DataW.weights_mem_each (j := 2) (t := 26) (d := y2.1) rfl rfl n hn)
  have h2' : DataW.trod enc Try.prog W base (fun _ => true) held k 26 (rcs a.msg) = some y2 := h2
  obtain ⟨xs, k2, _, rfl, hl, hlen, hf⟩ := DataW.trod_struct Try.underlying26 h2'
  obtain ⟨z0, z1, z2, z3, z4, z5, z6, z7, rfl⟩ := eight xs hlen
  have h7 := hf 7 _ rfl
  have c24 : Try.prog.cellsOf 24 = 1 := by kernel_rfl
  have e7 : ((rcs a.msg).drop 8).take (Try.prog.cellsOf 24) = [.slice a.msg.la a.msg.ln a.msg.lc] := by rw [c24]; rfl
  change DataW.trod _ _ _ _ _ _ _ 24 (((rcs a.msg).drop 8).take (Try.prog.cellsOf 24)) = _ at h7
  rw [e7] at h7
  have hw7 : Light 24 z7.1 := fun n hn => hw2 n (by
    simp only [DataW.weights, Try.underlying26]
    exact DataW.weights_mem_each (j := 7) (t := 24) (d := z7.1) rfl rfl n hn)
  have h7' : DataW.trod enc Try.prog W base (fun _ => true) held k2 24 [.slice a.msg.la a.msg.ln a.msg.lc] = some z7 := h7
  rcases Deep.open_slice Try.underlying24 h7' with ⟨e, _⟩ | ⟨ad, n, cap, m, k', D, Pl, e, hb, hl, hm, hmm, rfl, hi⟩
  · simp at e
    omega
  · simp at e
    obtain ⟨-, e1, e3⟩ := e
    have h := hw7 (((List.range n).map D).length + ((List.range (m - n)).map fun j => D (n + j)).length |> (· * Try.prog.bytesOf 59)) (by
      simp only [DataW.weights, Try.underlying24]
      exact List.mem_cons_self ..)
    have b59 : Try.prog.bytesOf 59 = 40 := by kernel_rfl
    simp only [List.length_map, List.length_range, b59, reachBytes] at h
    rw [e1]
    omega
theorem row_of_light {α : Type} (en : α → List Value) (k : Nat) (hk : 0 < k) (hen : ∀ s, (en s).length = k) (good : α → Prop) {T E : TypeId}
    (hT : Try.prog.underlying T = some (.slice E)) (hc : Try.prog.cellsOf E = k)
    (hone : ∀ {fuel : Nat} {cs : List Value} {x : DataW H × List MemPlace}, DataW.trod enc Try.prog W base (fun _ => true) held fuel E cs = some x → Light E x.1 → ∃ s, cs = en s ∧ good s)
    {fuel : Nat} {cs : List Value} {x : DataW H × List MemPlace} (h : DataW.trod enc Try.prog W base (fun _ => true) held fuel T cs = some x) (hw : Light T x.1) :
    ∃ (a : Option Addr) (n cap : Nat) (ss : List α), cs = [.slice a n cap] ∧ ss.length = n ∧ n ≤ cap ∧ cap ≤ maxLen ∧ (∀ s ∈ ss, good s) ∧
      (ss = [] ∨ ∃ b off, a = some ⟨b, off, none⟩ ∧ b < W.heap.size ∧ ∀ j u, (ss.flatMap en)[j]? = some u → W.cell? ⟨b, off + j, none⟩ = some u) := by
  rcases Deep.open_slice hT h with ⟨rfl, _⟩ | ⟨ad, n, cap, m, k', D, Pl, rfl, hb, hl, hm, hmm, rfl, hi⟩
  · exact ⟨none, 0, 0, [], rfl, rfl, Nat.le_refl _, Nat.zero_le _, (fun s h => by cases h), .inl rfl⟩
  · simp only [if_true] at hmm
    subst hmm
    rw [hc] at hi
    obtain ⟨b, off, spot⟩ := ad
    by_cases h0 : n = 0
    · exact ⟨_, n, m, [], rfl, h0.symm, hl, hm, (fun s h => by cases h), .inl rfl⟩
    have each : ∀ r, r < n → ∃ s : α, good s ∧ ∀ j, j < k → W.cell? ((Addr.mk b off spot).add (r * k) |>.add j) = (en s)[j]? := by
      intro r hr
      obtain ⟨cs', e1, e2⟩ := hi r (by omega)
      obtain ⟨e3, e4, e5⟩ := World.cells?_some e1
      obtain ⟨s, rfl, f1⟩ := hone e2 (fun q hq => hw q (by
        simp only [DataW.weights, hT, List.mem_cons, List.mem_append]
        exact .inr (.inl (weightsAll_mem (List.mem_map.2 ⟨r, List.mem_range.2 hr, rfl⟩) q hq))))
      exact ⟨s, f1, fun j hj => e5 j hj⟩
    have hch : ∀ q, q ≤ n → ∃ ss : List α, ss.length = q ∧ ∀ r s, ss[r]? = some s → good s ∧ ∀ j, j < k → W.cell? ((Addr.mk b off spot).add (r * k) |>.add j) = (en s)[j]? := by
      intro q
      induction q with
      | zero => exact fun _ => ⟨[], rfl, fun r s hr => by simp at hr⟩
      | succ q ih =>
        intro hq
        obtain ⟨ss, e1, e2⟩ := ih (by omega)
        obtain ⟨t, f⟩ := each q (by omega)
        refine ⟨ss ++ [t], by simp [e1], fun r s hr => ?_⟩
        rcases Nat.lt_or_ge r q with h | h
        · rw [List.getElem?_append_left (by omega)] at hr; exact e2 r s hr
        · rw [List.getElem?_append_right (by omega), e1] at hr
          have : r - q = 0 := by
            have := (List.getElem?_eq_some_iff.1 hr).1
            simp at this; omega
          rw [this] at hr
          obtain rfl : r = q := by omega
          cases hr
          exact f
    obtain ⟨ss, e1, e2⟩ := hch n (Nat.le_refl _)
    have hs : spot = none := by
      obtain ⟨s, f1, f2⟩ := each 0 (by omega)
      have g0 := f2 0 hk
      rw [Nat.zero_mul] at g0
      obtain ⟨v, hv⟩ : ∃ v, (en s)[0]? = some v := ⟨_, List.getElem?_eq_getElem (by rw [hen]; exact hk)⟩
      exact spot_none (b := b) (off := off) (w := W) (v := v) (by rw [hv] at g0; unfold Addr.add at g0; simpa using g0)
    subst hs
    have hcell : ∀ j u, (ss.flatMap en)[j]? = some u → W.cell? ⟨b, off + j, none⟩ = some u := by
      intro j u hu
      have hj := (List.getElem?_eq_some_iff.1 hu).1
      rw [flat_len en k hen, e1] at hj
      have hd : j / k < n := Nat.div_lt_of_lt_mul (by rw [Nat.mul_comm]; exact hj)
      obtain ⟨s, hs⟩ : ∃ s, ss[j / k]? = some s := ⟨_, List.getElem?_eq_getElem (by rw [e1]; exact hd)⟩
      have hm2 := Nat.mod_lt j hk
      have hdm : j / k * k + j % k = j := by rw [Nat.mul_comm]; exact Nat.div_add_mod j k
      have g := (e2 _ _ hs).2 (j % k) hm2
      have g2 := flat_at en k hen ss _ _ hs (j % k) hm2
      rw [hdm] at g2
      rw [← g2, hu] at g
      rw [Addr.add_lit, Addr.add_lit, Nat.add_assoc, hdm] at g
      exact g
    refine ⟨_, n, m, ss, rfl, e1, hl, hm, fun s hs => ?_, .inr ⟨b, off, rfl, ?_, hcell⟩⟩
    · obtain ⟨i, hi, e⟩ := List.getElem_of_mem hs
      exact (e2 i s (by rw [List.getElem?_eq_getElem hi, e])).1
    · obtain ⟨v, hv⟩ : ∃ v, (ss.flatMap en)[0]? = some v := ⟨_, List.getElem?_eq_getElem (by rw [flat_len en k hen, e1]; exact Nat.mul_pos (by omega) hk)⟩
      exact World.block_lt_of_cell? _ _ (hcell 0 v hv)
/-- What is told of the acts that came in. -/
def IsActs (w : World) (A : Option Addr) (n C : Nat) : Prop := ∃ l : List Ac, AV w A n C l ∧ Fit l ∧ ∀ a ∈ l, a.msg.la = none → a.msg.lc = 0
theorem nil_of_trod {fuel : Nat} {a : Ac} {x : DataW H × List MemPlace} (h : DataW.trod enc Try.prog W base (fun _ => true) held fuel 29 (acs a) = some x) : a.msg.la = none → a.msg.lc = 0 := by
  obtain ⟨xs, k, _, rfl, hl, hlen, hf⟩ := DataW.trod_struct Try.underlying29 h
  obtain ⟨y0, y1, y2, rfl⟩ := three' xs hlen
  have h2 := hf 2 _ rfl
  have c26 : Try.prog.cellsOf 26 = 9 := by kernel_rfl
  have e2 : ((acs a).drop 2).take (Try.prog.cellsOf 26) = rcs a.msg := by rw [c26]; rfl
  change DataW.trod _ _ _ _ _ _ _ 26 (((acs a).drop 2).take (Try.prog.cellsOf 26)) = _ at h2
  rw [e2] at h2
  have h2' : DataW.trod enc Try.prog W base (fun _ => true) held k 26 (rcs a.msg) = some y2 := h2
  obtain ⟨xs, k2, _, rfl, hl, hlen, hf⟩ := DataW.trod_struct Try.underlying26 h2'
  obtain ⟨z0, z1, z2, z3, z4, z5, z6, z7, rfl⟩ := eight xs hlen
  have h7 := hf 7 _ rfl
  have c24 : Try.prog.cellsOf 24 = 1 := by kernel_rfl
  have e7 : ((rcs a.msg).drop 8).take (Try.prog.cellsOf 24) = [.slice a.msg.la a.msg.ln a.msg.lc] := by rw [c24]; rfl
  change DataW.trod _ _ _ _ _ _ _ 24 (((rcs a.msg).drop 8).take (Try.prog.cellsOf 24)) = _ at h7
  rw [e7] at h7
  have h7' : DataW.trod enc Try.prog W base (fun _ => true) held k2 24 [.slice a.msg.la a.msg.ln a.msg.lc] = some z7 := h7
  rcases Deep.open_slice Try.underlying24 h7' with ⟨e, _⟩ | ⟨ad, n, cap, m, k', D, Pl, e, -⟩
  · simp at e
    exact fun _ => e.2.2
  · simp at e
    intro hn
    rw [hn] at e
    cases e.1
theorem isActs_of_trod {fuel : Nat} {A : Option Addr} {n C : Nat} {x : DataW H × List MemPlace} (h : DataW.trod enc Try.prog W base (fun _ => true) held fuel 30 [.slice A n C] = some x) (hw : Light 30 x.1) : IsActs W A n C := by
  obtain ⟨A', n', C', ss, e, h1, h2, h3, h4, h5⟩ := row_of_light acs 11 (by decide) (fun _ => rfl) (fun a : Ac => RIn W a.msg ∧ a.msg.ln ≤ 4000000000000 ∧ (a.msg.la = none → a.msg.lc = 0)) Try.underlying30 (by kernel_rfl)
    (fun h hl => by
      obtain ⟨a, rfl, ha⟩ := act_of_trod h
      exact ⟨a, rfl, ha, fit_of_trod h hl, nil_of_trod h⟩) h hw
  simp at e
  obtain ⟨rfl, rfl, rfl⟩ := e
  exact ⟨ss, ⟨h1, h2, h3, fun a ha => (h4 a ha).1, h5⟩, fun a ha => (h4 a ha).2.1, fun a ha => (h4 a ha).2.2⟩
end
end Go.Proofs.Ytkfkleafonpbgaa
