/- The contract of slices.Delete on messages: one is deleted. -/
import Derived.Test.YtkfkleafonpbgaaBag
import Derived.Deep.RegionLaw
import Derived.Lib.SlicesDelete
namespace Go.Proofs.Ytkfkleafonpbgaa
open Go.RowKit

/-- What storing many cells makes of a block. -/
theorem setCells_blk (b : Nat) (t : TypeId) : ∀ (vs : List Value) (o : Nat) (w : World) (cur : Array Value), w.heap[b]? = some (.cells cur t) →
    ∃ cur', (w.setCells b o vs).heap[b]? = some (.cells cur' t) ∧ cur'.size = cur.size ∧ ∀ k, k < cur.size → cur'[k]? = if o ≤ k ∧ k < o + vs.length then vs[k - o]? else cur[k]?
  | [], o, w, cur, h => ⟨cur, h, rfl, fun k hk => by rw [if_neg (by simp only [List.length_nil]; omega)]⟩
  | v :: r, o, w, cur, h => by
    obtain ⟨cur', h1, h2, h3⟩ := setCells_blk b t r (o + 1) (w.setCell ⟨b, o, none⟩ v) _ (blk_set h o v)
    rw [Array.size_setIfInBounds] at h2 h3
    refine ⟨cur', h1, h2, fun k hk => ?_⟩
    rw [h3 k hk, List.length_cons]
    by_cases hko : k = o
    · subst hko
      rw [if_neg (by omega), if_pos (by omega), Nat.sub_self, Array.getElem?_setIfInBounds]
      simp [hk]
    · by_cases hr : o + 1 ≤ k ∧ k < o + 1 + r.length
      · rw [if_pos hr, if_pos (by omega), show k - o = (k - (o + 1)) + 1 by omega]; rfl
      · rw [if_neg hr, if_neg (by omega), Array.getElem?_setIfInBounds, if_neg (fun e => hko e.symm)]
theorem setCells_other (b : Nat) : ∀ (vs : List Value) (o : Nat) (w : World) (k : Nat), k ≠ b → (w.setCells b o vs).heap[k]? = w.heap[k]?
  | [], _, _, _, _ => rfl
  | v :: r, o, w, k, h => (setCells_other b r (o + 1) _ k h).trans (Below.heap_setCell w ⟨b, o, none⟩ v k h)
theorem setCells_size (b : Nat) : ∀ (vs : List Value) (o : Nat) (w : World), (w.setCells b o vs).heap.size = w.heap.size ∧ (w.setCells b o vs).os = w.os ∧ (w.setCells b o vs).tape = w.tape ∧ (w.setCells b o vs).output = w.output
  | [], _, _ => ⟨rfl, rfl, rfl, rfl⟩
  | v :: r, o, w => by
    obtain ⟨h1, h2, h3, h4⟩ := setCells_size b r (o + 1) (w.setCell ⟨b, o, none⟩ v)
    exact ⟨h1.trans (by simp), h2, h3, h4⟩

theorem rcells_one (ps : List Pm) (h : ∀ p ∈ ps, p.2.oneCell' = true) : ∀ v ∈ rcells ps, v.oneCell' = true := by
  intro v hv
  unfold rcells at hv
  obtain ⟨p, hp, he⟩ := List.mem_flatMap.1 hv
  simp [mcells] at he
  rcases he with rfl | rfl | rfl | rfl | rfl | rfl | rfl | rfl | rfl <;> first | rfl | exact h p hp

theorem zeroMsg (w : World) : (zeroValue 26).run Try.prog w = .ok (.agg #[.int .i64 0, .int .i64 0, .int .i64 0, .int .i64 0, .int .i64 0, .int .i64 0, .int .i64 0, .string ⟨#[]⟩, .slice none 0 0]) w := by kernel_rfl

set_option maxHeartbeats 4000000 in
set_option maxRecDepth 100000 in
theorem delete_one (g n cap i : Nat) (ps : List Pm) (w : World) (cur : Array Value) (hn : ps.length = n) (hg : w.heap[g]? = some (.cells cur 26)) (hcap : n ≤ cap) (hcm : cap ≤ maxLen) (hsz : cur.size = cap * 9) (htk : cur.toList.take (n * 9) = rcells ps) (hi : i < n) (hone : ∀ p ∈ ps, p.2.oneCell' = true) :
    Calls Try.prog 37 #[.slice (some ⟨g, 0, none⟩) n cap, .int .i64 (i : Int), .int .i64 ((i : Int) + 1)] w fun e w' => e = .returned (.slice (some ⟨g, 0, none⟩) (n - 1) cap) ∧ w'.ownsRow 0 26 9 (.slice (some ⟨g, 0, none⟩) (n - 1) cap) (n - 1) (rcells (ps.take i ++ ps.drop (i + 1))) ∧ w.grownBy w' (some g) := by
  obtain ⟨i0, hi0, hz1⟩ : ∃ i0, Try.prog.info? 26 = some i0 ∧ i0.size = 9 := by
    have : (Try.prog.info? 26).map (fun i => i.size) = some 9 := by kernel_rfl
    cases h : Try.prog.info? 26 with
    | none => rw [h] at this; cases this
    | some j => rw [h] at this; exact ⟨j, rfl, by simpa using this⟩
  obtain ⟨news, hnews⟩ : ∃ news, rcells (ps.drop (i + 1)) = news := ⟨_, rfl⟩
  have hlen : news.length = (n - (i + 1)) * 9 := by rw [← hnews, rcells_len, List.length_drop, hn]
  have hrl := rcells_len ps
  rw [hn] at hrl
  have hcur : ∀ k, k < n * 9 → cur[k]? = (rcells ps)[k]? := fun k hk => by
    rw [← htk, List.getElem?_take, if_pos hk]; simp
  have hget : ∀ t, t < (n - (i + 1)) * 9 → news[t]? = cur[(i + 1) * 9 + t]? := fun t ht => by
    rw [← hnews, rcells_drop _ _ (by omega), List.getElem?_drop, hcur _ (by omega)]
  obtain ⟨A, hA, hsrc⟩ : ∃ A : Addr, (if cap = i + 1 then some (⟨g, 0, none⟩ : Addr) else some ⟨g, (i + 1) * 9, none⟩) = some A ∧ Hid (∀ t u, news[t]? = some u → w.drew.cell? (A.add t) = some u) := by
    by_cases h : cap = i + 1
    · refine ⟨⟨g, 0, none⟩, by simp [h], fun t u hu => ?_⟩
      have h0 : news.length = 0 := by rw [hlen]; omega
      rw [List.length_eq_zero_iff.1 h0] at hu
      simp at hu
    · refine ⟨⟨g, (i + 1) * 9, none⟩, by simp [h], fun t u hu => ?_⟩
      have ht := (List.getElem?_eq_some_iff.1 hu).1
      rw [hlen] at ht
      rw [hget t ht] at hu
      rw [Addr.add_lit]
      exact (cell_blk hg _).trans hu
  have s1 := Lib.hid hlen
  have s2 := Lib.hid (rcells_one (ps.drop (i + 1)) (fun p hp => hone p (List.mem_of_mem_drop hp)))
  rw [hnews] at s2
  have s3 : Hid (∀ t, t < news.length → (w.drew.cell? ⟨g, 0 + i * 9 + t, none⟩).isSome = true ∧ w.drew.frozen? ⟨g, 0 + i * 9 + t, none⟩ = false) := by
    intro t ht
    rw [hlen] at ht
    refine ⟨?_, free_blk hg _⟩
    rw [show w.drew.cell? ⟨g, 0 + i * 9 + t, none⟩ = cur[0 + i * 9 + t]? from cell_blk hg _, Array.getElem?_eq_getElem (by omega)]
    rfl
  obtain ⟨W1, hW1⟩ : ∃ W1, w.drew.setCells g (0 + i * 9) news = W1 := ⟨_, rfl⟩
  obtain ⟨cur1, k1, k2, k3⟩ := setCells_blk g 26 news (0 + i * 9) w.drew cur hg
  rw [hW1] at k1
  obtain ⟨Z, hZ⟩ : ∃ Z, (Builtin.zeroCells (Value.agg #[.int .i64 0, .int .i64 0, .int .i64 0, .int .i64 0, .int .i64 0, .int .i64 0, .int .i64 0, .string ⟨#[]⟩, .slice none 0 0]).cells 1).toList = Z := ⟨_, rfl⟩
  have hZl : Z.length = 9 := by rw [← hZ, zeroCells_len]; rfl
  obtain ⟨W2, hW2⟩ : ∃ W2, W1.setCells g ((n - 1) * 9) Z = W2 := ⟨_, rfl⟩
  have e1 : i + (n - (i + 1)) = n - 1 := by omega
  have e2 : n - (n - 1) = 1 := by omega
  have hcl : ∀ ty, (Builtin.clear_ #[33] ty #[.slice (some ⟨g, (i + (n - (i + 1))) * 9, none⟩) (n - (i + (n - (i + 1)))) (cap - (i + (n - (i + 1))))]).run Try.prog W1 = .ok (.tuple #[]) W2 :=
    fun ty => by
      rw [e1, e2, ← hW2, ← hZ]
      exact run_clear_many W1 33 26 ty _ Try.underlying33 zeroMsg (by decide) g ((n - 1) * 9) 1 (cap - (n - 1)) (by decide)
        (fun j hj => by
          have hj9 : j < 9 := by simpa [Value.cells] using hj
          rw [cell_blk k1, Array.getElem?_eq_getElem (by omega)]; rfl)
        (fun j _ => free_blk k1 _)
  have X := Lib.hid hW1
  have Y : w.grownBy W2 (some g) ∧ W2.ownsRow 0 26 9 (.slice (some ⟨g, 0, none⟩) (n - 1) cap) (n - 1) (rcells (ps.take i ++ ps.drop (i + 1))) := by
    obtain ⟨s11, s12, s13, s14⟩ := setCells_size g news (0 + i * 9) w.drew
    obtain ⟨s21, s22, s23, s24⟩ := setCells_size g Z ((n - 1) * 9) W1
    rw [hW1] at s11 s12 s13 s14
    rw [hW2] at s21 s22 s23 s24
    obtain ⟨cur2, m1, m2, m3⟩ := setCells_blk g 26 Z ((n - 1) * 9) W1 cur1 k1
    rw [hW2] at m1
    refine ⟨⟨s22.trans s12, s23.trans s13, s24.trans s14, by rw [s21, s11]; exact Nat.le_refl _, fun k hk hne => ?_⟩, ?_, .inr ⟨g, cap, cur2, rfl, Nat.zero_le _, m1, by omega, hcm, by omega, ?_⟩⟩
    · have hkg : k ≠ g := fun e => hne (by rw [e])
      rw [← hW2, setCells_other g Z _ W1 k hkg, ← hW1, setCells_other g news _ w.drew k hkg]
      rfl
    · rw [rcells_len, List.length_append, List.length_take, List.length_drop, hn]; omega
    · apply List.ext_getElem?
      intro k
      rw [rcells_append, rcells_take _ _ (by omega), List.getElem?_take]
      have hl1 : ((rcells ps).take (i * 9)).length = i * 9 := by rw [List.length_take, hrl]; omega
      by_cases hk : k < (n - 1) * 9
      · rw [if_pos hk, Array.getElem?_toList, m3 k (by omega), if_neg (by omega), k3 k (by omega)]
        by_cases hki : k < i * 9
        · rw [if_neg (by omega), hcur k (by omega), List.getElem?_append_left (by omega), List.getElem?_take, if_pos hki]
        · rw [if_pos (by omega), List.getElem?_append_right (by omega), hl1, hnews, show k - (0 + i * 9) = k - i * 9 by omega]
      · rw [if_neg hk, List.getElem?_append_right (by omega), hl1, hnews, List.getElem?_eq_none (by omega)]
  have HY := Lib.hid Y
  have hic : i ≤ cap := by omega
  have hjc : i + 1 ≤ cap := by omega
  have hwr : IntKind.i64.wrap ((i : Int) + 1) = (i : Int) + 1 := by rw [IntKind.wrap_i64]; unfold maxLen at hcm; omega
  have hp0 : (0 : Int) ≤ (i : Int) + 1 := by omega
  have hp1 : (i : Int) + 1 ≤ (n : Int) := by omega
  have hp2 : ((i : Int) + 1).toNat = i + 1 := by omega
  have hn9 : n ≤ 9223372036854775807 := Nat.le_trans hcap hcm
  unfold maxLen at hcm
  have he1 := Lib.hid e1
  clear hg hnews hlen hget hcur htk k1 k2 k3 hW1 hsz hrl hn hone hZ hZl hW2 e1 e2 Y
  go_enter Try.func37, Try.ntmps37
  go_wp2_with fail
  go_region_law (refine step_append_room rfl (.tmp 22) (.tmp 25) 33 rfl 26 i0 9 Try.underlying33 hi0 hz1 g 0 i cap (by simp [Act.eval, Act.put]) A (n - (i + 1)) (cap - (i + 1)) news (by simp [Act.eval, Act.put]) s1.out hsrc.out s2.out (by omega) s3.out ?_; rw [X.out])
  go_wp2
  go_ret
  rw [he1.out]
  exact ⟨rfl, HY.out.2, HY.out.1⟩
end Go.Proofs.Ytkfkleafonpbgaa
