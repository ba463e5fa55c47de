/- Slices of slices of bytes: skaldlaw04.few, append of them. -/
import Derived.Test.YtconcmjmdhdgjaaDoorJoin
import Derived.Test.YtconcmjmdhdgjaaDoorLater
import Derived.Laws.OwnMore
namespace Go.Proofs.YtconcmjmdhdgjaaDoor
open Go.RowKit

/-- At most 20 contents of at most 200 bytes. -/
def Few (ls : List (List UInt8)) : Prop := ls.length ≤ 20 ∧ ∀ i, i < ls.length → (tx ls i).length ≤ 200

set_option maxHeartbeats 2000000 in
theorem few_yes (a : Option Addr) (ls : List (List UInt8)) (n cap : Nat) (w : World) (hn : ls.length = n) (hf : Few ls) (hl : TextsAt w a ls) :
    Calls Tryd.prog 25 #[.slice a n cap] w fun e w' => e = .returned (.bool true) ∧ w = w' := by
  have h20 : n ≤ 20 := hn ▸ hf.1
  have HF := Lib.hid (And.intro hf.2 (And.intro hl hn))
  clear hf hl hn
  go_enter Tryd.func25, Tryd.ntmps25
  go_wp2
  go_loopw [3] (fun i wr => ∃ k : Nat, k ≤ n ∧ i = .int .i64 (k : Int) ∧ w = wr) (fun i _ => n - (intOf i).toNat)
  case atStart => exact ⟨0, Nat.zero_le _, rfl, rfl⟩
  case round =>
    obtain ⟨k, hk, rfl, rfl⟩ := hrel
    by_cases hlt : k < n
    · have hkl : k < ls.length := by rw [HF.out.2.2]; exact hlt
      obtain ⟨b, off, rfl, hb1, A, C, hc, h2, -⟩ : ∃ b off, a = some ⟨b, off, none⟩ ∧ b < w.heap.size ∧ ∃ A C, w.cell? ⟨b, off + k, none⟩ = some (.slice A (tx ls k).length C) ∧ (tx ls k).length ≤ C ∧ C ≤ maxLen ∧ (A = none → C = 0) ∧ BytesAt w A (tx ls k) := by
        rcases HF.out.2.1 with h | ⟨b, off, h1, h2, h3⟩
        · rw [h] at hkl; simp at hkl
        · exact ⟨b, off, h1, h2, h3 k hkl⟩
      have hm := HF.out.1 k hkl
      generalize (tx ls k).length = m at *
      go_wp2
      refine ⟨⟨k + 1, hlt, (by first | rfl | trivial), (by first | rfl | trivial)⟩, ?_⟩
      show n - ((k : Int) + 1).toNat < n - ((k : Int)).toNat
      omega
    · obtain rfl : k = n := by omega
      go_wp2
      go_ret
      exact ⟨rfl, rfl⟩

set_option maxHeartbeats 2000000 in
theorem few_no (a : Option Addr) (ls : List (List UInt8)) (n cap : Nat) (w : World) (hn : ls.length = n) (hmx : n ≤ 9223372036854775807) (hf : ¬ Few ls) (hl : TextsAt w a ls) :
    Calls Tryd.prog 25 #[.slice a n cap] w fun e w' => e = .returned (.bool false) ∧ w = w' := by
  by_cases h20 : 20 < n
  · go_enter Tryd.func25, Tryd.ntmps25
    go_wp2
    go_ret
    exact ⟨rfl, rfl⟩
  · have HF := Lib.hid (And.intro hf (And.intro hl hn))
    clear hf hl hn
    go_enter Tryd.func25, Tryd.ntmps25
    go_wp2
    go_loopw [3] (fun i wr => ∃ k : Nat, k ≤ n ∧ i = .int .i64 (k : Int) ∧ w = wr ∧ ∀ j, j < k → (tx ls j).length ≤ 200) (fun i _ => n - (intOf i).toNat)
    case atStart => exact ⟨0, Nat.zero_le _, rfl, rfl, fun j hj => absurd hj (Nat.not_lt_zero j)⟩
    case round =>
      obtain ⟨k, hk, rfl, rfl, hall⟩ := hrel
      have HA := Lib.hid hall
      clear hall
      by_cases hlt : k < n
      · have hkl : k < ls.length := by rw [HF.out.2.2]; exact hlt
        obtain ⟨b, off, rfl, hb1, A, C, hc, h2, h3, -⟩ : ∃ b off, a = some ⟨b, off, none⟩ ∧ b < w.heap.size ∧ ∃ A C, w.cell? ⟨b, off + k, none⟩ = some (.slice A (tx ls k).length C) ∧ (tx ls k).length ≤ C ∧ C ≤ maxLen ∧ (A = none → C = 0) ∧ BytesAt w A (tx ls k) := by
          rcases HF.out.2.1 with h | ⟨b, off, h1, h2, h3⟩
          · rw [h] at hkl; simp at hkl
          · exact ⟨b, off, h1, h2, h3 k hkl⟩
        obtain ⟨m, hm⟩ : ∃ m, (tx ls k).length = m := ⟨_, rfl⟩
        rw [hm] at hc h2
        have HM := Lib.hid hm
        have h3' : C ≤ 9223372036854775807 := h3
        clear hm h3 hkl
        by_cases hbig : 200 < m
        · go_wp2
          go_ret
          exact ⟨rfl, rfl⟩
        · go_wp2
          refine ⟨⟨k + 1, hlt, (by first | rfl | trivial), (by first | rfl | trivial), fun j hj => ?_⟩, ?_⟩
          · rcases Nat.lt_or_ge j k with h | h
            · exact HA.out j h
            · obtain rfl : j = k := by omega
              have := HM.out; omega
          · show n - ((k : Int) + 1).toNat < n - ((k : Int)).toNat
            omega
      · obtain rfl : k = n := by omega
        exact absurd ⟨by have := HF.out.2.2; omega, fun i hi => HA.out i (by have := HF.out.2.2; omega)⟩ HF.out.1

/-- Slices as values, and what they hold. -/
def Vals (w : World) (vs : List Value) (ls : List (List UInt8)) : Prop :=
  vs.length = ls.length ∧ ∀ i, i < ls.length → ∃ A C, vs[i]? = some (.slice A (tx ls i).length C) ∧ (tx ls i).length ≤ C ∧ C ≤ maxLen ∧ (A = none → C = 0) ∧ BytesAt w A (tx ls i)
theorem Vals.below {w w' : World} {vs : List Value} {ls : List (List UInt8)} (h : Vals w vs ls) (hb : Below w.heap.size w w') : Vals w' vs ls := by
  refine ⟨h.1, fun i hi => ?_⟩
  obtain ⟨A, C, e1, e2, e3, e4, e5⟩ := h.2 i hi
  exact ⟨A, C, e1, e2, e3, e4, e5.below hb⟩
theorem tx_append_left (ls ms : List (List UInt8)) (i : Nat) (h : i < ls.length) : tx (ls ++ ms) i = tx ls i := by
  unfold tx; rw [List.getElem?_append_left h]
theorem tx_append_right (ls ms : List (List UInt8)) (i : Nat) (h : ls.length ≤ i) : tx (ls ++ ms) i = tx ms (i - ls.length) := by
  unfold tx; rw [List.getElem?_append_right h]
theorem Vals.append {w : World} {vs us : List Value} {ls ms : List (List UInt8)} (h : Vals w vs ls) (h' : Vals w us ms) : Vals w (vs ++ us) (ls ++ ms) := by
  refine ⟨by simp [h.1, h'.1], fun i hi => ?_⟩
  rw [List.length_append] at hi
  rcases Nat.lt_or_ge i ls.length with h1 | h1
  · rw [tx_append_left _ _ _ h1, List.getElem?_append_left (by rw [h.1]; exact h1)]
    exact h.2 i h1
  · rw [tx_append_right _ _ _ h1, List.getElem?_append_right (by rw [h.1]; exact h1), h.1]
    exact h'.2 _ (by omega)
theorem Vals.one {w : World} {vs : List Value} {ls : List (List UInt8)} (h : Vals w vs ls) : ∀ u ∈ vs, u.oneCell' = true := by
  intro u hu
  obtain ⟨i, hi, rfl⟩ := List.getElem_of_mem hu
  obtain ⟨A, C, e1, _⟩ := h.2 i (by rw [← h.1]; exact hi)
  rw [List.getElem?_eq_getElem hi] at e1
  rw [Option.some.inj e1]; rfl
/-- The values of a slice of slices in memory. -/
theorem TextsAt.vals {w : World} {a : Option Addr} {ls : List (List UInt8)} (h : TextsAt w a ls) : ∃ vs, Vals w vs ls ∧ ∀ ad, a = some ad → ∀ j u, vs[j]? = some u → w.cell? (ad.add j) = some u := by
  rcases h with rfl | ⟨b, off, rfl, h2, h3⟩
  · exact ⟨[], ⟨rfl, fun i hi => absurd hi (Nat.not_lt_zero i)⟩, fun _ _ j u hu => by simp at hu⟩
  · refine ⟨(List.range ls.length).map fun i => (w.cell? ⟨b, off + i, none⟩).getD undef, ⟨by simp, fun i hi => ?_⟩, ?_⟩
    · obtain ⟨A, C, e1, e2, e3, e4, e5⟩ := h3 i hi
      exact ⟨A, C, by simp [hi, e1], e2, e3, e4, e5⟩
    · rintro ad hA j u hu
      cases hA
      have hj : j < ls.length := by
        have := (List.getElem?_eq_some_iff.1 hu).1
        simpa using this
      obtain ⟨A, C, e1, _⟩ := h3 j hj
      rw [Addr.add_lit, e1]
      simp [hj, e1] at hu
      rw [hu]

/-- A slice of slices that the call has made. -/
def OwnT (w : World) (B : Nat) (v : Value) (vs : List Value) : Prop := w.ownsRow B 22 1 v vs.length vs
theorem OwnT.below {w w' : World} {B : Nat} {v : Value} {vs : List Value} (h : OwnT w B v vs) (hb : Below w.heap.size w w') : OwnT w' B v vs := row_below h hb
theorem own_litT (w : World) (B : Nat) (hB : B ≤ w.heap.size) : OwnT (w.alloc (.cells #[] 22)) B (.slice (some ⟨w.heap.size, 0, none⟩) 0 0) [] :=
  ⟨rfl, .inr ⟨w.heap.size, 0, #[], rfl, hB, blk_new _ _, Nat.le_refl _, by unfold maxLen; omega, rfl, rfl⟩⟩
theorem OwnT.opened {w : World} {B : Nat} {v : Value} {vs : List Value} (h : OwnT w B v vs) (hv : v ≠ .slice none 0 0) : ∃ g cap, v = .slice (some ⟨g, 0, none⟩) vs.length cap ∧ B ≤ g ∧ g < w.heap.size ∧ vs.length ≤ cap ∧ cap ≤ maxLen := by
  rcases h.2 with ⟨h1, _⟩ | ⟨g, cap, cur, h1, hB, hg, hn, hm, _⟩
  · exact absurd h1 hv
  · exact ⟨g, cap, h1, hB, lt_of_blk hg, hn, hm⟩
theorem OwnT.texts {w : World} {B g n cap : Nat} {vs : List Value} {ls : List (List UInt8)} (h : OwnT w B (.slice (some ⟨g, 0, none⟩) n cap) vs) (hv : Vals w vs ls) : TextsAt w (some ⟨g, 0, none⟩) ls := by
  rcases h.2 with ⟨h1, _⟩ | ⟨g', cap', cur, h1, hB, hg, hn, hm, hs, ht⟩
  · cases h1
  · cases h1
    refine .inr ⟨g, 0, rfl, lt_of_blk hg, fun i hi => ?_⟩
    obtain ⟨A, C, e1, e2⟩ := hv.2 i hi
    refine ⟨A, C, ?_, e2⟩
    rw [Nat.zero_add, cell_blk hg, ← e1]
    have : (cur.toList.take (vs.length * 1))[i]? = vs[i]? := by rw [ht]
    rw [List.getElem?_take, if_pos (by rw [hv.1]; omega)] at this
    simpa using this

/-- Values that lie in memory, one behind the other. -/
def CellsAt (w : World) (a : Option Addr) (us : List Value) : Prop :=
  (a = none → us = []) ∧ ∀ ad, a = some ad → ∀ j u, us[j]? = some u → w.cell? (ad.add j) = some u
theorem CellsAt.below {w w' : World} {a : Option Addr} {us : List Value} (h : CellsAt w a us) (hb : Below w.heap.size w w') : CellsAt w' a us :=
  ⟨h.1, fun ad ha j u hu => (hb.cell (World.block_lt_of_cell? _ _ (h.2 ad ha j u hu))).trans (h.2 ad ha j u hu)⟩
theorem TextsAt.both {w : World} {a : Option Addr} {ls : List (List UInt8)} (h : TextsAt w a ls) : ∃ vs, Vals w vs ls ∧ CellsAt w a vs := by
  obtain ⟨vs, h1, h2⟩ := h.vals
  refine ⟨vs, h1, fun ha => ?_, h2⟩
  rcases h with rfl | ⟨b, off, h3, _⟩
  · exact List.eq_nil_of_length_eq_zero h1.1
  · rw [h3] at ha; cases ha

/-- append of slices. -/
theorem wpList_append_texts {w : World} {ops : Array Oper} {rest : List Oper} {o : Oper} {a : Act} {Q : Exit → Act → World → Prop} (hgd : o.guard = none) (s x : Operand)
    (ho : o.op = .call { callee := .builtin .append, args := #[s, x], argTypes := #[39, 39] })
    (B : Nat) (v : Value) (vs : List Value) (hs : a.eval s = v) (hown : OwnT w B v vs) (ao : Option Addr) (n c : Nat) (hx : a.eval x = .slice ao n c) (us : List Value) (hl2 : us.length = n) (hone : ∀ u ∈ us, u.oneCell' = true) (hcells : CellsAt w ao us) (hnc : ao = none → c = 0)
    (hlen : vs.length + n ≤ 1000000) (hB : B ≤ w.heap.size)
    (h : ∀ v' w', OwnT w' B v' (vs ++ us) → w.grownBy w' v.ownBlock → (v' = .slice none 0 0 ↔ v = .slice none 0 0 ∧ (n = 0 ∨ ao = none)) → (v'.ownBlock = v.ownBlock ∨ v'.ownBlock = some w.heap.size) → wpList Tryd.prog ops Q rest (a.put o.dst v') w') :
    wpList Tryd.prog ops Q (o :: rest) a w := by
  obtain ⟨i0, hi, hz0, hz1, hz2⟩ := info_parts Tryd.info22
  have hu39 : Tryd.prog.underlying 39 = some (.slice 22) := Tryd.underlying39
  cases ao with
  | some ad =>
    refine wpList_append_own_at (P := Tryd.prog) w hgd s x 39 ho B 22 i0 (.slice none 0 0) 1 24 hu39 hi hz0 hz1 hz2 rfl (by decide) v vs.length vs hs hown ad n c us hx (by rw [hl2]; omega) (hcells.2 ad rfl) hone (by unfold maxLen; omega) (by omega) hB ?_
    intro v' w' h1 h2 h3 h4
    refine h v' w' ?_ h2 (by simpa using h3) h4
    unfold OwnT
    rw [List.length_append, hl2]; exact h1
  | none =>
    have hu0 : us = [] := hcells.1 rfl
    subst hu0
    subst hl2
    refine wpList_plain hgd fun K hK => ?_
    have hrun := run_append_owned_none (P := Tryd.prog) w B 39 o.type 22 i0 1 hu39 hi v vs.length vs hown
    obtain rfl := hnc rfl
    unfold Oper.wp execOp
    simp only [ho, resolve, invoke, builtin, Sem.run_bind, Sem.run_pure, Result.andThen_ok, List.map_toArray, List.map_cons, List.map_nil, hs, hx, List.length_nil, hrun]
    exact hK _ _ (h v w (by rw [List.append_nil]; exact hown) ⟨rfl, rfl, rfl, Nat.le_refl _, fun _ _ _ => rfl⟩ (by simp) (.inl rfl))
end Go.Proofs.YtconcmjmdhdgjaaDoor
