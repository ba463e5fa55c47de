/- The contracts of bag at bags that are nil or zero. -/
import Derived.Test.YtkfkleafonpbgaaNodes
namespace Go.Proofs.Ytkfkleafonpbgaa
open Go.RowKit Go.Shelf
attribute [local go_sem] Oper.semAt_some

/-- A bag that is nil, or a zero one. -/
def DB (w : World) (A : Option Addr) : Prop := A = none ∨ ∃ d, A = some ⟨d, 0, none⟩ ∧ w.heap[d]? = some (.cells #[.bool false, .int .i64 0, .slice none 0 0, .int .i64 0] 35)
theorem DB.below {w w' : World} {A : Option Addr} (h : DB w A) (hb : Below w.heap.size w w') : DB w' A := by
  rcases h with rfl | ⟨d, rfl, h⟩
  · exact .inl rfl
  · exact .inr ⟨d, rfl, blk_below' h hb⟩
section
variable {w : World} {A : Option Addr}
theorem dead_len (h : DB w A) : Calls Try.prog 19 #[.pointer A] w fun e w' => e = .returned (.int .i64 0) ∧ w = w' := by
  rcases h with rfl | ⟨d, rfl, h⟩
  · go_enter Try.func19, Try.ntmps19
    go_wp2
    go_ret
    exact ⟨rfl, rfl⟩
  · have c2 := cell_blk h 2
    simp at c2
    have zD := lt_of_blk h
    clear h
    go_enter Try.func19, Try.ntmps19
    go_wp2
    go_ret
    exact ⟨rfl, rfl⟩
theorem dead_lost (h : DB w A) : Calls Try.prog 17 #[.pointer A] w fun e w' => e = .returned (.int .i64 0) ∧ w = w' := by
  rcases h with rfl | ⟨d, rfl, h⟩
  · go_enter Try.func17, Try.ntmps17
    go_wp2
    go_ret
    exact ⟨rfl, rfl⟩
  · have c2 := cell_blk h 3
    simp at c2
    have zD := lt_of_blk h
    clear h
    go_enter Try.func17, Try.ntmps17
    go_wp2
    go_ret
    exact ⟨rfl, rfl⟩
theorem dead_copy (h : DB w A) : Calls Try.prog 20 #[.pointer A] w fun e w' => e = .returned (.pointer none) ∧ Below w.heap.size w w' := by
  rcases h with rfl | ⟨d, rfl, h⟩
  · go_enter Try.func20, Try.ntmps20
    go_wp2
    go_ret
    exact ⟨rfl, by go_grown⟩
  · have c0 := cell_blk h 0
    simp at c0
    have zD := lt_of_blk h
    clear h
    go_enter Try.func20, Try.ntmps20
    go_wp2
    go_ret
    exact ⟨rfl, by go_grown⟩
set_option maxRecDepth 20000 in
theorem dead_get (h : DB w A) (i : Int) : Calls Try.prog 12 #[.pointer A, .int .i64 i] w (NoneTo w 1) := by
  rcases h with rfl | ⟨d, rfl, h⟩
  · go_enter Try.func12, Try.ntmps12
    go_wp2
    refine bodyPost_ret (v := .tuple #[.agg #[.int .i64 0, .int .i64 0, .int .i64 0, .int .i64 0, .int .i64 0, .int .i64 0, .int .i64 0, .string ⟨#[]⟩, .slice none 0 0], .int .i64 1]) (by simp [results, Try.results12, go_sem]) rfl ⟨rfl, by go_grown⟩
  · have c0 := cell_blk h 0
    simp at c0
    have zD := lt_of_blk h
    clear h
    go_enter Try.func12, Try.ntmps12
    go_wp2
    refine bodyPost_ret (v := .tuple #[.agg #[.int .i64 0, .int .i64 0, .int .i64 0, .int .i64 0, .int .i64 0, .int .i64 0, .int .i64 0, .string ⟨#[]⟩, .slice none 0 0], .int .i64 1]) (by simp [results, Try.results12, go_sem]) rfl ⟨rfl, by go_grown⟩
set_option maxRecDepth 20000 in
set_option maxHeartbeats 1000000 in
theorem dead_take (h : DB w A) (i : Int) : Calls Try.prog 13 #[.pointer A, .int .i64 i] w (NoneTo w 1) := by
  have hb0 : Below w.heap.size w (w.alloc (.cells #[.int .i64 0, .int .i64 0, .int .i64 0, .int .i64 0, .int .i64 0, .int .i64 0, .int .i64 0, .string ⟨#[]⟩, .slice none 0 0] 26)) := (Below.refl _ _).alloc (Nat.le_refl _) _
  have HG := Lib.hid (And.intro (dead_get (h.below hb0) i) (And.intro hb0 (zeroMsg_blk w)))
  clear h hb0
  go_enter Try.func13, Try.ntmps13
  go_upto_region 4 with (go_at_call 12; refine HG.out.1.mono ?_; rintro e w1 ⟨rfl, hb1⟩; have H1 := Lib.hid hb1; clear hb1)
  obtain ⟨W2, hW2⟩ : ∃ W2, w1.alloc (.cells #[.int .i64 0, .int .i64 0, .int .i64 0, .int .i64 0, .int .i64 0, .int .i64 0, .int .i64 0, .string ⟨#[]⟩, .slice none 0 0] 26) = W2 := ⟨_, rfl⟩
  rw [hW2]
  obtain ⟨a0, a1, a2, a3, a4, a5, a6, a7, a8, af⟩ := cell9 (w := W2) (by rw [← hW2]; exact blk_alloc (blk_below' HG.out.2.2 H1.out) _)
  obtain ⟨b0, b1, b2, b3, b4, b5, b6, b7, b8, -⟩ := cell9 (w := W2) (b := w1.heap.size) (by rw [← hW2]; exact blk_new _ _)
  have hb2 : Below w.heap.size w W2 := by
    have h := belowStep HG.out.2.1 H1.out
    rw [← hW2]; exact h.alloc h.size _
  have H2 := Lib.hid hb2
  clear hW2 hb2
  go_wp2_with fail
  refine bodyPost_ret (v := .tuple #[.agg #[.int .i64 0, .int .i64 0, .int .i64 0, .int .i64 0, .int .i64 0, .int .i64 0, .int .i64 0, .string ⟨#[]⟩, .slice none 0 0], .int .i64 1]) (by simp [results, Try.results13, go_sem, a0, a1, a2, a3, a4, a5, a6, a7, a8]) rfl ⟨rfl, ?_⟩
  have hb := H2.out
  repeat refine Below.setCell ?_ (by simp) _
  exact hb
set_option maxRecDepth 20000 in
set_option maxHeartbeats 1000000 in
theorem dead_double (h : DB w A) (i : Int) : Calls Try.prog 16 #[.pointer A, .int .i64 i] w fun e w' => e = .returned (.int .i64 1) ∧ Below w.heap.size w w' := by
  have HG := Lib.hid (dead_get h i)
  clear h
  go_enter Try.func16, Try.ntmps16
  go_wp2_with (go_at_call 12; refine HG.out.mono ?_; rintro e w1 ⟨rfl, hb1⟩; have H1 := Lib.hid hb1; clear hb1)
  go_ret
  exact ⟨rfl, belowStep H1.out ((Below.refl _ _).alloc (Nat.le_refl _) _)⟩
set_option maxRecDepth 20000 in
set_option maxHeartbeats 1000000 in
theorem dead_put (h : DB w A) (k1 k2 k3 k4 k5 k6 k7 : Int) (ms : ByteArray) (v : Value) (Al : Option Addr) (n C : Nat) (hv : v = .slice Al n C) : Calls Try.prog 14 #[.pointer A, .agg #[.int .i64 k1, .int .i64 k2, .int .i64 k3, .int .i64 k4, .int .i64 k5, .int .i64 k6, .int .i64 k7, .string ms, v]] w fun e w' => e = .returned (.int .i64 1) ∧ Below w.heap.size w w' := by
  subst hv
  rcases h with rfl | ⟨d, rfl, h⟩
  · go_enter Try.func14, Try.ntmps14
    go_wp2
    go_ret
    exact ⟨rfl, by go_grown⟩
  · have c0 := cell_blk h 0
    simp at c0
    have zD := lt_of_blk h
    clear h
    go_enter Try.func14, Try.ntmps14
    go_wp2
    go_ret
    exact ⟨rfl, by go_grown⟩

/-- What the iterator reads of a zero bag. -/
def ZeroMem (w : World) (d bx nx : Nat) (node : Int) : Prop :=
  w.heap[d]? = some (.cells #[.bool false, .int .i64 0, .slice none 0 0, .int .i64 0] 35) ∧ w.heap[bx]? = some (.cells #[.pointer (some ⟨d, 0, none⟩)] 32) ∧ w.heap[nx]? = some (.cells #[.int .i64 node] 3)
set_option maxRecDepth 20000 in
set_option maxHeartbeats 4000000 in
theorem to_it0 (d bx nx lp : Nat) (node : Int) (J Jx : List Nat → World → Prop) (W : World) (hJM : ∀ l W, J l W → ZeroMem W d bx nx node) (h0 : J [] W) :
    Calls Try.prog 57 #[.func (.yield lp) #[] #[], .pointer (some ⟨bx, 0, none⟩), .pointer (some ⟨nx, 0, none⟩)] W (IterEnd J Jx (fun xs _ => xs = []) (fun _ _ => True)) := by
  have hM := hJM _ _ h0
  have c2 := cell_blk hM.1 2
  have cb := cell_blk hM.2.1 0
  simp at c2 cb
  have zD := lt_of_blk hM.1
  have HJ := Lib.hid h0
  clear h0 hM
  refine (callsIn_wide (n := 9)).1 (callsIn_of_wp Try.func57 rfl trivial ?_ rfl)
  simp only [Try.ntmps57, List.size_toArray, List.length_cons, List.length_nil, Nat.reduceAdd, Nat.reduceSub, Array.replicate_succ, Array.replicate_zero, List.push_toArray, List.append_toArray, List.nil_append, List.cons_append]
  gi_wp2_with fail
  gi_loopw [11] (fun i wr => i = .int .i64 0 ∧ wr = W) (fun i _ => 0 - (intOf i).toNat)
  case atStart => exact ⟨rfl, rfl⟩
  case round =>
    obtain ⟨rfl, rfl⟩ := hrel
    gi_wp2
    refine bodyPost_end (results_none rfl _ _ _) rfl ?_
    exact ⟨⟨_, rfl⟩, .inl ⟨_, HJ.out, rfl⟩⟩

/-- What is there while For runs on a zero bag. -/
def ZeroInv (w : World) (d : Nat) (node : Int) (W : World) : Prop :=
  W.heap[w.heap.size]? = some (.cells #[.slice none 0 0] 44) ∧ ZeroMem W d (w.heap.size + 1) (w.heap.size + 2) node ∧ Below w.heap.size w W
theorem ZeroInv.stays {w W W' : World} {d : Nat} {node : Int} (h : ZeroInv w d node W) (hd : d < w.heap.size) (hs : Stays (w.heap.size + 3) W W') : ZeroInv w d node W' := by
  obtain ⟨h1, ⟨h2, h3, h4⟩, h5⟩ := h
  exact ⟨hs.blk h1 (by omega) (by omega), ⟨hs.blk h2 (by omega) (by omega), hs.blk h3 (by omega) (by omega), hs.blk h4 (by omega) (by omega)⟩, h5.trans (hs.below (by omega) h5.size)⟩
set_option maxRecDepth 20000 in
set_option maxHeartbeats 4000000 in
theorem dead_for (h : DB w A) (node : Int) : Calls Try.prog 18 #[.pointer A, .int .i64 node] w (ForTo w []) := by
  rcases h with rfl | ⟨d, rfl, h⟩
  · refine (callsIn_wide (n := 9)).1 (callsIn_of_wp_marks Try.func18 rfl trivial ?_)
    simp only [Try.ntmps18, List.size_toArray, List.length_cons, List.length_nil, Nat.reduceAdd, Nat.reduceSub, Array.replicate_succ, Array.replicate_zero, List.push_toArray, List.append_toArray, List.nil_append, List.cons_append]
    gi_wp2
    exact ⟨_, results_tmp rfl _ _ _, .slice none 0 0, rfl, World.ownsRow_nil _ _ _ _, Below.refl _ _⟩
  · have HD := Lib.hid h
    have zd := lt_of_blk h
    clear h
    refine (callsIn_wide (n := 9)).1 (callsIn_of_wp_marks Try.func18 rfl trivial ?_)
    simp only [Try.ntmps18, List.size_toArray, List.length_cons, List.length_nil, Nat.reduceAdd, Nat.reduceSub, Array.replicate_succ, Array.replicate_zero, List.push_toArray, List.append_toArray, List.nil_append, List.cons_append]
    gi_wp2_with fail
    refine ⟨trivial, (callsIn_wide.2 (to_any _ node _ _ rfl)).mono ?_⟩
    rintro e w1 ⟨rfl, hw1⟩
    have HW := Lib.hid hw1
    clear hw1
    gi_wp2_with fail
    obtain ⟨W0, hW0⟩ : ∃ W0, w1 = W0 := ⟨_, rfl⟩
    rw [hW0]
    have hw0 := HW.out
    rw [hW0] at hw0
    clear hW0 HW
    have hs0 : W0.heap.size = w.heap.size + 3 := by rw [← hw0]; simp
    have hB0 : Below w.heap.size w W0 := by rw [← hw0]; go_grown
    have k0 : W0.heap[w.heap.size]? = some (.cells #[.slice none 0 0] 44) := by rw [← hw0]; exact blk_alloc (blk_alloc (blk_new w _) _) _
    have k1 : W0.heap[w.heap.size + 1]? = some (.cells #[.pointer (some ⟨d, 0, none⟩)] 32) := by
      have := blk_new (w.alloc (.cells #[.slice none 0 0] 44)) (.cells #[.pointer (some ⟨d, 0, none⟩)] 32)
      rw [World.size_alloc] at this
      rw [← hw0]; exact blk_alloc this _
    have k2 : W0.heap[w.heap.size + 2]? = some (.cells #[.int .i64 node] 3) := by
      have := blk_new ((w.alloc (.cells #[.slice none 0 0] 44)).alloc (.cells #[.pointer (some ⟨d, 0, none⟩)] 32)) (.cells #[.int .i64 node] 3)
      rw [World.size_alloc, World.size_alloc] at this
      rw [← hw0]; exact this
    have h00 : ZeroInv w d node W0 := ⟨k0, ⟨blk_below' HD.out hB0, k1, k2⟩, hB0⟩
    clear hw0 k0 k1 k2
    refine range_law (P := Try.prog) (gf := 57) (lb := #[.pointer (some ⟨w.heap.size + 1, 0, none⟩), .pointer (some ⟨w.heap.size + 2, 0, none⟩)]) rfl (enters_of Try.func57 (by kernel_rfl) rfl) (fun i => #[iv i]) (fun _ => rfl)
      (fun _ W => ZeroInv w d node W) (fun _ _ _ => False) (fun _ _ _ => False) (fun xs _ => xs = []) (fun _ _ => True)
      (fun s W W' h hs => h.stays zd (hs0 ▸ hs)) (fun _ _ _ _ h _ => h) (fun _ _ _ h _ => h) (fun _ _ _ h _ => h) h00 ?round ?call ?done ?stop
    case round => exact fun pre i W _ f _ => f.elim
    case call =>
      intro J Jx W hs hsz hJ hJx hJI _ hY h0
      exact to_it0 d (w.heap.size + 1) (w.heap.size + 2) (W0.heap.size + 1) node J Jx W (fun l W h => (hJI _ _ h).1.2.1) h0
    case done =>
      rintro xs W rfl ⟨h1, h2, h5⟩ hD
      have c1 := cell_blk h1 0
      simp at c1
      have HE := Lib.hid h5
      clear h1 h2 h5
      gi_wp2
      have hst : Stays W0.heap.size W (W.putObj W0.heap.size (.deferred none)) := .putObj _ _ _ _ (.inl rfl)
      refine ⟨by simp, .inl ⟨_, _, rfl, run_takeDeferred (w := W) hD, ?_⟩⟩
      exact ⟨_, results_tmp rfl _ _ _, .slice none 0 0, rfl, World.ownsRow_nil _ _ _ _, HE.out.trans (hst.below (by omega) HE.out.size)⟩
    case stop => exact fun _ _ _ h _ _ => h.elim
end
end Go.Proofs.Ytkfkleafonpbgaa
