/- The walk of skaldlaw23.FetchNil. -/
import Derived.Test.YtjkgbofeogaeoaaFTwo
import Derived.Test.YtjkgbofeogaeoaaNilS
namespace Go.Proofs.Ytjkgbofeogaeoaa
open Go.RowKit Go.Shelf Go.Maps
attribute [local go_sem] Oper.semAt_some

theorem made_not {w : World} {A1 A2 : Option Addr} {g1 g2 : Bool} (hg : Good w [(A1, g1), (A2, g2)]) (hn : (g1 && g2) = false) : Calls Try.prog 91 #[.slice (some ⟨w.heap.size, 0, none⟩) 2 2] (w.alloc (.cells #[.pointer A1, .pointer A2] 22)) fun e w' => e = .returned (.bool false) ∧ Below w.heap.size w w' := by
  have hb : Below w.heap.size w (w.alloc (.cells #[.pointer A1, .pointer A2] 22)) := (Below.refl _ _).alloc (Nat.le_refl _) _
  refine (made_all (hg.below hb) (ev_blk (enc := pv) (l := [A1, A2]) (blk_new w _) (by simp [maxLen]))).mono fun e w' ⟨he, hb'⟩ => ⟨?_, belowStep hb hb'⟩
  rw [he]
  cases g1 <;> cases g2 <;> first | rfl | cases hn
set_option maxRecDepth 20000 in
theorem fill_dead {w : World} {A : Option Addr} (h : DL w A) (v : Value) : Calls Try.prog 51 #[.pointer A, v] w fun e w' => e = .returned (.tuple #[.int .i64 0, .int .i64 1]) ∧ Below w.heap.size w w' := by
  have HM := Lib.hid (made_dead h)
  clear h
  go_enter Try.func51, Try.ntmps51
  go_wp2_with (go_at_call 91; refine HM.out.mono ?_; rintro e w1 ⟨rfl, hb1⟩; have H1 := Lib.hid hb1; clear hb1)
  go_ret2
  exact ⟨rfl, H1.out⟩
theorem ans_dead_v {w : World} {A : Option Addr} (h : DL w A) (a m : Int) : Calls Try.prog 48 #[.pointer A, .int .i64 a, .int .i64 m] w fun e w' => ∃ A' C, e = .returned (.tuple #[.slice A' 0 C, .bool false, .int .i64 1]) ∧ Below w.heap.size w w' :=
  (ans_dead h a m).mono fun _ _ ⟨A', C, he, _, hb⟩ => ⟨A', C, he, hb⟩
set_option maxRecDepth 20000 in
set_option maxHeartbeats 4000000 in
theorem same_dead {w : World} {A1 A2 : Option Addr} {g1 g2 : Bool} (hg : Good w [(A1, g1), (A2, g2)]) (hn : (g1 && g2) = false) : Calls Try.prog 58 #[.pointer A1, .pointer A2] w (SameTo w (false, 0) 1) := by
  obtain ⟨W0, hW0⟩ : ∃ W0, (((w.alloc (.cells #[.pointer A2] 22)).alloc (.cells #[.bool false] 4)).alloc (.cells #[.int .i64 0] 3)).alloc (.cells #[.int .i64 0] 24) = W0 := ⟨_, rfl⟩
  have hb0 : Below w.heap.size w W0 := by rw [← hW0]; go_grown
  have hmd := made_not (hg.below hb0) hn
  have HM := Lib.hid (And.intro hmd (And.intro hb0 hW0))
  clear hmd hb0 hg hn hW0
  refine (callsIn_wide (n := 9)).1 (callsIn_of_wp_marks Try.func58 rfl trivial ?_)
  simp only [Try.ntmps58, List.size_toArray, List.length_cons, List.length_nil, Nat.reduceAdd, Nat.reduceSub, Array.replicate_succ, Array.replicate_zero, List.push_toArray, List.append_toArray, List.nil_append, List.cons_append]
  gi_wp2_with fail
  obtain ⟨B, hB⟩ : ∃ B, w.heap.size = B := ⟨_, rfl⟩
  have hs0 : W0.heap.size = B + 4 := by rw [← HM.out.2.2]; simp; omega
  have k1 : W0.heap[B + 1]? = some (.cells #[.bool false] 4) := by
    have := blk_new (w.alloc (.cells #[.pointer A2] 22)) (.cells #[.bool false] 4)
    rw [World.size_alloc] at this
    rw [← HM.out.2.2, ← hB]; exact blk_alloc (blk_alloc this _) _
  have k2 : W0.heap[B + 2]? = some (.cells #[.int .i64 0] 3) := by
    have := blk_new ((w.alloc (.cells #[.pointer A2] 22)).alloc (.cells #[.bool false] 4)) (.cells #[.int .i64 0] 3)
    rw [World.size_alloc, World.size_alloc] at this
    rw [← HM.out.2.2, ← hB]; exact blk_alloc this _
  have k3 : W0.heap[B + 3]? = some (.cells #[.int .i64 0] 24) := by
    have := blk_new (((w.alloc (.cells #[.pointer A2] 22)).alloc (.cells #[.bool false] 4)).alloc (.cells #[.int .i64 0] 3)) (.cells #[.int .i64 0] 24)
    rw [World.size_alloc, World.size_alloc, World.size_alloc] at this
    rw [← HM.out.2.2, ← hB]; exact this
  rw [HM.out.2.2, show w.heap.size + 1 + 1 + 1 + 1 = W0.heap.size by rw [hs0, hB]]
  refine ⟨trivial, (callsIn_wide.2 HM.out.1).mono ?_⟩
  rintro e w1 ⟨rfl, hb1⟩
  rw [hB]
  have k1 := blk_below' k1 hb1
  have k2 := blk_below' k2 hb1
  have k3 := blk_below' k3 hb1
  have f1 := free_blk k1 0
  have f2 := free_blk k2 0
  have f3 := free_blk k3 0
  have d1 := cell_blk k1 0
  have d2 := cell_blk k2 0
  have d3 := cell_blk k3 0
  simp at d1 d2 d3
  have z1 := lt_of_blk k1
  have z2 := lt_of_blk k2
  have z3 := lt_of_blk k3
  have H1 := Lib.hid (And.intro (belowStep HM.out.2.1 hb1) (And.intro k1 (And.intro k2 (And.intro k3 hB))))
  clear hb1 k1 k2 k3 hs0 hB
  gi_wp2
  obtain ⟨hb, k1, k2, k3, hB⟩ := H1.out
  obtain ⟨W3, hW3⟩ : ∃ W3, ((w1.setCell ⟨B + 1, 0, none⟩ (.bool false)).setCell ⟨B + 1 + 1, 0, none⟩ (.int .i64 0)).setCell ⟨B + 1 + 1 + 1, 0, none⟩ (.int .i64 1) = W3 := ⟨_, rfl⟩
  have hU : Upd (fun x => x = B + 1 ∨ x = B + 2 ∨ x = B + 3) w1 W3 := by rw [← hW3]; exact (((Upd.refl _ w1).setCell _ _ (.inl (.inl rfl))).setCell _ _ (.inl (.inr (.inl rfl)))).setCell _ _ (.inl (.inr (.inr rfl)))
  have g1 : W3.heap[B + 1]? = some (.cells #[.bool false] 4) := by rw [← hW3]; exact blk_other (blk_other (by simpa using blk_set k1 0 (.bool false)) _ _ (by simp)) _ _ (by simp)
  have g2 : W3.heap[B + 2]? = some (.cells #[.int .i64 0] 3) := by rw [← hW3]; exact blk_other (by simpa using blk_set (blk_other k2 ⟨B + 1, 0, none⟩ (.bool false) (by simp)) 0 (.int .i64 0)) _ _ (by simp)
  have g3 : W3.heap[B + 3]? = some (.cells #[.int .i64 1] 24) := by rw [← hW3]; simpa using blk_set (blk_other (blk_other k3 ⟨B + 1, 0, none⟩ (.bool false) (by simp)) ⟨B + 1 + 1, 0, none⟩ (.int .i64 0) (by simp)) 0 (.int .i64 1)
  rw [hW3]
  have q1 := cell_blk g1 0
  have q2 := cell_blk g2 0
  have q3 := cell_blk g3 0
  simp at q1 q2 q3
  refine ⟨.tuple #[.bool false, .int .i64 0, .int .i64 1], by simp [results, Try.results58, go_sem, q1, q2, q3], rfl, ?_⟩
  exact hb.trans ⟨hU.os, hU.tape, hU.output, hU.size, fun x hx => hU.block x (by have := hb.size; omega) (by omega)⟩
/-- What the rounds keep: the two logs that are none, and one that is. -/
structure KN (w : World) (Z S D : Nat) (s : Ls) (W : World) : Prop where
  n : NilInv w Z S W
  l : LogIn W D s
theorem KN.below {w W W' : World} {Z S D : Nat} {s : Ls} (h : KN w Z S D s W) (hb : Below W.heap.size W W') : KN w Z S D s W' := ⟨h.n.below hb, h.l.below hb⟩
theorem good_1 {W : World} {D : Nat} {s : Ls} {p : Option Addr} (h : LogIn W D s) (hd : DL W p) : Good W [(p, false), (some ⟨D, 0, none⟩, true)] := fun x hx => by
  obtain ⟨b, n, h1, -⟩ := h
  simp at hx
  rcases hx with rfl | rfl
  · exact hd
  · exact ⟨D, b, n, s, rfl, h1⟩
theorem good_2 {W : World} {D : Nat} {s : Ls} {p : Option Addr} (h : LogIn W D s) (hd : DL W p) : Good W [(some ⟨D, 0, none⟩, true), (p, false)] := fun x hx => by
  obtain ⟨b, n, h1, -⟩ := h
  simp at hx
  rcases hx with rfl | rfl
  · exact ⟨D, b, n, s, rfl, h1⟩
  · exact hd
set_option maxRecDepth 20000 in
set_option maxHeartbeats 8000000 in
theorem fetchNil_walk (B S Sd : Nat) (fr mo : Int) (w : World) (hB : B ≤ 255) (hS : S < 18446744073709551616) (hSd : Sd ≤ 255) :
    Calls Try.prog 16 #[.agg #[.int .u8 (B : Int), .int .u64 (S : Int), .int .u8 (Sd : Int)], .int .i64 fr, .int .i64 mo] w fun e w' => e = .returned (.bool true) ∧ Below w.heap.size w w' := by
  have HM := Lib.hid (fun W => made47 B S Sd W hB hS hSd)
  go_enter Try.func16, Try.ntmps16
  go_wp2_with fail
  refine (HM.out _).mono ?_
  rintro e w1 ⟨D, b, s, rfl, h1, -⟩
  have hb0 : Below w.heap.size w (w.alloc (.cells #[.int .u8 (B : Int), .int .u64 (S : Int), .int .u8 (Sd : Int)] 66)) := (Below.refl _ _).alloc (Nat.le_refl _) _
  have H1 := Lib.hid (And.intro (belowStep hb0 h1.out) h1.inn)
  clear h1 hb0
  go_wp2_with fail
  obtain ⟨W1, hW1⟩ : ∃ W1, (w1.alloc (.cells #[.map none, .int .i64 0, .int .i64 0, .int .i64 0] 58)).alloc (.cells #[.pointer none, .pointer (some ⟨w1.heap.size, 0, none⟩)] 22) = W1 := ⟨_, rfl⟩
  rw [hW1]
  have hb1 : Below w1.heap.size w1 W1 := by rw [← hW1]; go_grown
  have h1 : KN w w1.heap.size (w1.heap.size + 1) D s W1 := by
    refine ⟨⟨belowStep H1.out.1 hb1, by rw [← hW1]; exact blk_alloc (blk_new _ _) _, ?_⟩, H1.out.2.below hb1⟩
    have := blk_new (w1.alloc (.cells #[.map none, .int .i64 0, .int .i64 0, .int .i64 0] 58)) (.cells #[.pointer none, .pointer (some ⟨w1.heap.size, 0, none⟩)] 22)
    rw [World.size_alloc] at this
    rw [← hW1]; exact this
  have H2 := Lib.hid h1
  clear h1 hW1 hb1
  obtain ⟨Z, hZ⟩ : ∃ Z, w1.heap.size = Z := ⟨_, rfl⟩
  rw [hZ] at H2 ⊢
  obtain ⟨Q, hQ⟩ : ∃ Q, Z + 1 = Q := ⟨_, rfl⟩
  rw [hQ] at H2 ⊢
  clear hZ hQ
  go_loopw [32] (fun i wr => ∃ k : Nat, k ≤ 2 ∧ i = .int .i64 (k : Int) ∧ KN w Z Q D s wr) (fun i _ => 2 - (intOf i).toNat)
  case atStart => exact ⟨0, Nat.zero_le _, rfl, H2.out⟩
  case round =>
    obtain ⟨k, hk, rfl, hi⟩ := hrel
    have HB := Lib.hid hi
    clear hi
    by_cases hlt : k < 2
    · obtain ⟨p, hp, hd⟩ := HB.out.n.at k hlt
      have HD := Lib.hid hd
      have hki : (k : Int) < 2 := by omega
      clear hd
      go_wp2_with fail
      refine (ans_dead_v HD.out fr mo).mono ?_
      rintro e w3 ⟨A3, C3, rfl, hb3⟩
      have H3 := Lib.hid (And.intro (HD.out.below hb3) (HB.out.below hb3))
      clear hb3 hp
      go_wp2_with fail
      refine (need_dead H3.out.1 fr).mono ?_
      rintro e w4 ⟨rfl, hb4⟩
      have H4 := Lib.hid (And.intro (H3.out.1.below hb4) (H3.out.2.below hb4))
      clear hb4
      go_wp2_with fail
      obtain ⟨W5, hW5⟩ : ∃ W5, w4.alloc (.cells #[.int .i64 6, .int .i64 0, .int .i64 0, .int .i64 0, .int .i64 0, .int .i64 fr, .int .i64 0, .string ⟨#[]⟩, .slice none 0 0] 74) = W5 := ⟨_, rfl⟩
      have hb5 : Below w4.heap.size w4 W5 := by rw [← hW5]; exact (Below.refl _ _).alloc (Nat.le_refl _) _
      have H5 := Lib.hid (And.intro (H4.out.1.below hb5) (H4.out.2.below hb5))
      rw [hW5]
      clear hb5 hW5
      refine (fill_dead H5.out.1 _).mono ?_
      rintro e w6 ⟨rfl, hb6⟩
      have H6 := Lib.hid (And.intro (H5.out.1.below hb6) (H5.out.2.below hb6))
      clear hb6
      go_wp2_with fail
      refine (same_dead (good_1 H6.out.2.l H6.out.1) rfl).mono ?_
      rintro e w7 ⟨rfl, hb7⟩
      have H7 := Lib.hid (And.intro (H6.out.1.below hb7) (H6.out.2.below hb7))
      clear hb7
      go_wp2_with fail
      refine (same_dead (good_2 H7.out.2.l H7.out.1) rfl).mono ?_
      rintro e w8 ⟨rfl, hb8⟩
      have H8 := Lib.hid (H7.out.2.below hb8)
      clear hb8
      go_wp2
      go_roundw
      case rel => exact ⟨k + 1, hlt, by go_num, H8.out⟩
      case measure => simp [intOf] <;> omega
    · obtain rfl : k = 2 := by omega
      go_wp2_with (go_at_call 49; refine (works23_any _).mono ?_; rintro e w7 ⟨rfl, hb7⟩; have H7 := Lib.hid (belowStep HB.out.n.1 hb7); clear hb7)
      go_ret
      exact ⟨rfl, H7.out⟩
end Go.Proofs.Ytjkgbofeogaeoaa
