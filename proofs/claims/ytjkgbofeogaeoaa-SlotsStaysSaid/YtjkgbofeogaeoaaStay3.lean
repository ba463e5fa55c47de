/- Calls of a log that are refused leave all as it was. -/
import Derived.Test.YtjkgbofeogaeoaaStay2
namespace Go.Proofs.Ytjkgbofeogaeoaa
open Go.RowKit Go.Shelf Go.Maps

theorem S2.self {w W : World} {Q P C D : Nat} {t s : Ls} (h : S2 w Q P C D t s W) : S2 W Q P C D t s W := ⟨h.qb, h.pb, h.c, h.x, Below.refl _ _⟩
theorem row_eq {w w' : World} {B : Nat} {e : TypeId} {k n : Nat} {v : Value} {xs : List Value} (h : w.ownsRow B e k v n xs) (hb : ∀ g, v.ownBlock = some g → w'.heap[g]? = w.heap[g]?) : w'.ownsRow B e k v n xs := by
  refine ⟨h.1, ?_⟩
  rcases h.2 with hn | ⟨g, cap, cur, hv, hB, hg, r⟩
  · exact .inl hn
  · exact .inr ⟨g, cap, cur, hv, hB, (hb g (by rw [hv]; rfl)).trans hg, r⟩
theorem row_below {w w' : World} {B : Nat} {e : TypeId} {k n : Nat} {v : Value} {xs : List Value} (h : w.ownsRow B e k v n xs) (hb : Below w.heap.size w w') : w'.ownsRow B e k v n xs := row_eq h (fun g hg => hb.block g (World.ownsRow.lt h g hg).2)
theorem row_upd {F : Nat → Prop} {w w' : World} {B : Nat} {e : TypeId} {k n : Nat} {v : Value} {xs : List Value} (h : w.ownsRow B e k v n xs) (hU : Upd F w w') (hF : ∀ g, v.ownBlock = some g → ¬ F g) : w'.ownsRow B e k v n xs := row_eq h (fun g hg => hU.block g (World.ownsRow.lt h g hg).2 (hF g hg))
theorem q_put8 {w : World} {D : Nat} {s : Ls} (h : LogIn w D s) (k : Int) (v : ByteArray) (k0 : 0 ≤ k) (k4 : k < 4096) (hv : v.size ≤ 65536) (hb : k < s.base) : Calls Try.prog 23 #[.pointer (some ⟨D, 0, none⟩), .int .i64 k, .string v] w fun e w' => e = .returned (.int .i64 8) ∧ w = w' := by
  obtain ⟨b, n, h, -⟩ := h
  have HM := Lib.hid (made_any h)
  have c1 := cell_blk h.blk 1
  simp at c1
  have zD := lt_of_blk h.blk
  clear h
  have hk2 : ¬ k < 0 := by omega
  have hk3 : ¬ 4096 ≤ k := by omega
  have hv2 : ¬ 65536 < v.size := by omega
  go_enter Try.func23, Try.ntmps23
  go_wp2_with (go_at_call 71; refine HM.out.mono ?_; rintro e w' ⟨rfl, rfl⟩)
  go_ret
  exact ⟨rfl, rfl⟩
set_option maxRecDepth 20000 in
theorem q_put9 {w : World} {D : Nat} {s : Ls} (h : LogIn w D s) (k : Int) (v x : ByteArray) (k0 : 0 ≤ k) (k4 : k < 4096) (hv : v.size ≤ 65536) (hb : s.base ≤ k) (hx : s.f k = some x) (hne : x ≠ v) : Calls Try.prog 23 #[.pointer (some ⟨D, 0, none⟩), .int .i64 k, .string v] w fun e w' => e = .returned (.int .i64 9) ∧ w = w' := by
  obtain ⟨b, n, h, -⟩ := h
  have HM := Lib.hid (made_any h)
  have c0 := cell_blk h.blk 0
  have c1 := cell_blk h.blk 1
  simp at c0 c1
  have zD := lt_of_blk h.blk
  have hlook := h.mp.look k (by unfold inI; omega)
  rw [hx] at hlook
  simp only [Option.getD_some, Option.isSome_some] at hlook
  clear h hx
  have hk2 : ¬ k < 0 := by omega
  have hk3 : ¬ 4096 ≤ k := by omega
  have hv2 : ¬ 65536 < v.size := by omega
  have hb2 : ¬ k < s.base := by omega
  have hq : (x.toList == v.toList) = false := by
    rw [beq_eq_false_iff_ne]
    intro e
    rw [ByteArray.toList_eq, ByteArray.toList_eq] at e
    exact hne (bytes_eq e)
  go_enter Try.func23, Try.ntmps23
  go_wp2_with (go_at_call 71; refine HM.out.mono ?_; rintro e w' ⟨rfl, rfl⟩)
  go_ret
  exact ⟨rfl, rfl⟩
theorem q_fg3 {w : World} {D : Nat} {s : Ls} (h : LogIn w D s) (u : Int) (u0 : 0 ≤ u) (u4 : u ≤ 4096) (hu : s.upto < u) : Calls Try.prog 27 #[.pointer (some ⟨D, 0, none⟩), .int .i64 u] w fun e w' => e = .returned (.int .i64 3) ∧ w = w' := by
  obtain ⟨b, n, h, -⟩ := h
  have hc := check_any h u
  rw [if_neg (by omega)] at hc
  have HC := Lib.hid hc
  have c2 := cell_blk h.blk 2
  simp at c2
  have zD := lt_of_blk h.blk
  clear h hc
  go_enter Try.func27, Try.ntmps27
  go_wp2_with (go_at_call 74; refine HC.out.mono ?_; rintro e w' ⟨rfl, rfl⟩)
  go_ret
  exact ⟨rfl, rfl⟩
theorem q_jp8 {w : World} {D : Nat} {s : Ls} (h : LogIn w D s) (u : Int) (u0 : 0 ≤ u) (u4 : u ≤ 4096) (hu : u < s.upto) : Calls Try.prog 29 #[.pointer (some ⟨D, 0, none⟩), .int .i64 u] w fun e w' => e = .returned (.int .i64 8) ∧ w = w' := by
  obtain ⟨b, n, h, -⟩ := h
  have hc := check_any h u
  rw [if_neg (by omega)] at hc
  have HC := Lib.hid hc
  have c2 := cell_blk h.blk 2
  simp at c2
  have zD := lt_of_blk h.blk
  clear h hc
  go_enter Try.func29, Try.ntmps29
  go_wp2_with (go_at_call 74; refine HC.out.mono ?_; rintro e w' ⟨rfl, rfl⟩)
  go_ret
  exact ⟨rfl, rfl⟩
end Go.Proofs.Ytjkgbofeogaeoaa
