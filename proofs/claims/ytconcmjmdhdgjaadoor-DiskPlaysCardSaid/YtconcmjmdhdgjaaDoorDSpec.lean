/- Disks as lists of contents: what the steps of a script make of them; the contracts of short, filled, contents, kept. -/
import Derived.Test.YtconcmjmdhdgjaaDoorDisk8
import Derived.Test.YtconcmjmdhdgjaaDoorDKnown
import Derived.Test.YtconcmjmdhdgjaaDoorDSteps
import Derived.BigQuiet
namespace Go.Proofs.YtconcmjmdhdgjaaDoor
open Go.RowKit

theorem make_long9 (a : Option Addr) (n cap : Nat) (w : World) (h : 65536 < n) (hm : n ≤ 9223372036854775807) :
    Calls Tryd.prog 21 #[.slice a n cap] w fun e w' => e = .returned (.tuple #[.slice none 0 0, .int .i64 11]) ∧ w = w' := by
  go_enter Tryd.func21, Tryd.ntmps21
  go_wp2
  go_ret2
  exact ⟨rfl, rfl⟩
section
variable {w : World} {B : Nat} {h : Dk} {l : List UInt8} {safe : Nat} {st : List UInt8} {has : Bool}
theorem disk_save_long9 (d : DiskAt w B h l safe st has) (a : Option Addr) (n cap : Nat) (hlong : 65536 < n) (hm : n ≤ 9223372036854775807) :
    Calls Tryd.prog 45 #[.pointer (some ⟨h.D, 0, none⟩), .slice a n cap] w (Did w B h (.returned (.int .i64 11)) l safe st has) := by
  have HO := Lib.hid (own_at d)
  have HD := Lib.hid d
  clear d
  go_enter Tryd.func45, Tryd.ntmps45
  go_wp2_with (go_at_call 74; refine HO.out.mono ?_; rintro e w' ⟨rfl, rfl⟩)
  go_ret
  exact ⟨rfl, h, rfl, HD.out, Upd.refl _ _, fun b hb => .inl hb⟩
theorem disk_append_long9 (d : DiskAt w B h l safe st has) (a : Option Addr) (n cap : Nat) (hlong : 65536 < n) (hm : n ≤ 9223372036854775807) :
    Calls Tryd.prog 43 #[.pointer (some ⟨h.D, 0, none⟩), .slice a n cap] w (Did w B h (.returned (.int .i64 11)) l safe st has) := by
  have HO := Lib.hid (own_at d)
  have HD := Lib.hid d
  clear d
  go_enter Tryd.func43, Tryd.ntmps43
  go_wp2_with (first
    | (go_at_call 74; refine HO.out.mono ?_; rintro e w' ⟨rfl, rfl⟩)
    | (go_at_call 21; refine (make_long9 _ _ _ _ hlong hm).mono ?_; rintro e w' ⟨rfl, rfl⟩))
  go_ret
  exact ⟨rfl, h, rfl, HD.out, Upd.refl _ _, fun b hb => .inl hb⟩
end

/-- How many whole records of these fit into so many bytes. -/
def keptN : List (List UInt8) → Int → Nat
  | [], _ => 0
  | c :: r, left => if 8 + (c.length : Int) ≤ left then keptN r (left - (8 + (c.length : Int))) + 1 else 0
theorem joinB_cons (c : List UInt8) (r : List (List UInt8)) : (joinB (c :: r)).length = 8 + c.length + (joinB r).length := by
  unfold joinB; rw [List.flatMap_cons, List.length_append, recB_len]
theorem keptN_spec : ∀ (r : List (List UInt8)) (left : Int), keptN r left ≤ r.length ∧ ((joinB (r.take (keptN r left))).length : Int) ≤ max 0 (min left (joinB r).length) ∧
    (keptN r left = r.length ∨ max 0 (min left (joinB r).length) < ((joinB (r.take (keptN r left + 1))).length : Int))
  | [], left => ⟨Nat.le_refl _, by simp [keptN, joinB]; omega, .inl rfl⟩
  | c :: r, left => by
    unfold keptN
    by_cases h : 8 + (c.length : Int) ≤ left
    · rw [if_pos h]
      obtain ⟨h1, h2, h3⟩ := keptN_spec r (left - (8 + (c.length : Int)))
      rw [List.take_succ_cons, List.take_succ_cons, joinB_cons, joinB_cons, joinB_cons, List.length_cons]
      refine ⟨by omega, by omega, ?_⟩
      rcases h3 with h3 | h3
      · exact .inl (by omega)
      · exact .inr (by omega)
    · rw [if_neg h]
      rw [Nat.zero_add, List.take_succ_cons, List.take_zero, joinB_cons, joinB_cons]
      refine ⟨Nat.zero_le _, by simp [joinB]; omega, .inr ?_⟩
      simp [joinB]; omega
theorem spos_add (cs : List (List UInt8)) (k j : Nat) : spos cs (k + j) = spos cs k + (joinB ((cs.drop k).take j)).length := by
  unfold spos; rw [List.take_add, join_append, List.length_append]
theorem spos_rest (cs : List (List UInt8)) (k : Nat) : (joinB cs).length = spos cs k + (joinB (cs.drop k)).length := by
  unfold spos; rw [← List.length_append, ← join_append, List.take_append_drop]
/-- How many records stay when bytes are torn. -/
def tornK (cs : List (List UInt8)) (k : Nat) (left : Int) : Nat := k + keptN (cs.drop k) left
theorem tornK_spec (cs : List (List UInt8)) (k : Nat) (left : Int) (hk : k ≤ cs.length) (N : Nat) (hN : spos cs k + tornN (joinB cs).length (spos cs k) left = N) :
    tornK cs k left ≤ cs.length ∧ N ≤ (joinB cs).length ∧ spos cs (tornK cs k left) ≤ N ∧ (tornK cs k left = cs.length ∨ N < spos cs (tornK cs k left + 1)) := by
  obtain ⟨h1, h2, h3⟩ := keptN_spec (cs.drop k) left
  have h4 := spos_rest cs k
  have h5 := spos_add cs k (keptN (cs.drop k) left)
  have h6 := spos_add cs k (keptN (cs.drop k) left + 1)
  rw [List.length_drop] at h1 h3
  unfold tornN at hN
  unfold tornK
  rw [Nat.add_assoc]
  refine ⟨by omega, by omega, by omega, ?_⟩
  rcases h3 with h3 | h3
  · exact .inl (by omega)
  · exact .inr (by omega)
theorem join_take (cs : List (List UInt8)) (k : Nat) : (joinB cs).take (spos cs k) = joinB (cs.take k) := by
  have : joinB cs = joinB (cs.take k) ++ joinB (cs.drop k) := by rw [← join_append, List.take_append_drop]
  rw [this]; unfold spos; rw [List.take_left]
theorem spos_take (cs : List (List UInt8)) (k : Nat) : spos (cs.take k) k = spos cs k := by
  unfold spos; rw [List.take_take, Nat.min_self]
theorem spos_snoc (cs : List (List UInt8)) (c : List UInt8) (k : Nat) (h : k ≤ cs.length) : spos (cs ++ [c]) k = spos cs k := by
  unfold spos; rw [List.take_append_of_le_length h]

/-- A disk: the contents, how many are safe, the state. -/
structure Sp where
  cs : List (List UInt8)
  k : Nat
  st : List UInt8
  has : Bool
structure Sp.Fits (s : Sp) (m : Nat) : Prop where
  safe : s.k ≤ s.cs.length
  len : s.cs.length ≤ m
  cont : ∀ i, i < s.cs.length → (tx s.cs i).length ≤ 100
  st : s.st.length ≤ 100
theorem joinB_most : ∀ (cs : List (List UInt8)), (∀ i, i < cs.length → (tx cs i).length ≤ 100) → (joinB cs).length ≤ 108 * cs.length
  | [], _ => by simp [joinB]
  | c :: r, h => by
    rw [joinB_cons, List.length_cons]
    have h0 := h 0 (by simp)
    have := joinB_most r (fun i hi => h (i + 1) (by simp; omega))
    have e : (tx (c :: r) 0).length = c.length := rfl
    omega
def Sp.new : Sp := ⟨[], 0, [], false⟩
def Sp.app (s : Sp) (c : List UInt8) : Sp := if 65536 < c.length then s else { s with cs := s.cs ++ [c] }
def Sp.sync (s : Sp) : Sp := { s with k := s.cs.length }
def Sp.tear (s : Sp) (left : Int) : Sp := { s with cs := s.cs.take (tornK s.cs s.k left), k := tornK s.cs s.k left }
def Sp.save (s : Sp) (c : List UInt8) : Sp := if 65536 < c.length then s else ⟨[], 0, c, true⟩
def Sp.step (s : Sp) (p : Stp) : Sp := if p.act = 0 then s.app p.c else if p.act = 1 then s.sync else if p.act = 2 then s.tear p.left else if p.act = 3 then s.save p.c else s
def Sp.run (ss : List Stp) : Sp := ss.foldl Sp.step Sp.new
def errN (c : List UInt8) : Int := if 65536 < c.length then 11 else 0
theorem tornK_le (cs : List (List UInt8)) (k : Nat) (left : Int) (hk : k ≤ cs.length) : tornK cs k left ≤ cs.length := (tornK_spec cs k left hk _ rfl).1
theorem Sp.Fits.new : Sp.new.Fits 0 := ⟨Nat.le_refl _, Nat.le_refl _, fun i hi => absurd hi (Nat.not_lt_zero i), Nat.zero_le _⟩
theorem tx_take (cs : List (List UInt8)) (k i : Nat) (h : i < k) : tx (cs.take k) i = tx cs i := by
  unfold tx; rw [List.getElem?_take, if_pos h]
def OkC (c : List UInt8) : Prop := c.length ≤ 100 ∨ 65536 < c.length
section
variable {s : Sp} {m : Nat}
theorem Sp.Fits.app (h : s.Fits m) (c : List UInt8) (hc : OkC c) : (s.app c).Fits (m + 1) := by
  unfold Sp.app
  have := h.safe
  have := h.len
  split
  · exact ⟨h.safe, by omega, h.cont, h.st⟩
  · refine ⟨by simp; omega, by simp; omega, fun i hi => ?_, h.st⟩
    simp only [List.length_append, List.length_cons, List.length_nil] at hi
    rcases Nat.lt_or_ge i s.cs.length with h1 | h1
    · rw [tx_append_left _ _ _ h1]; exact h.cont i h1
    · obtain rfl : i = s.cs.length := by omega
      rw [tx_append_right _ _ _ (Nat.le_refl _), Nat.sub_self]
      rcases hc with hc | hc
      · exact hc
      · contradiction
theorem Sp.Fits.sync (h : s.Fits m) : s.sync.Fits m := ⟨Nat.le_refl _, h.len, h.cont, h.st⟩
theorem Sp.Fits.tear (h : s.Fits m) (left : Int) : (s.tear left).Fits m := by
  have h1 := tornK_le s.cs s.k left h.safe
  have h2 := h.len
  have h3 : (s.cs.take (tornK s.cs s.k left)).length = tornK s.cs s.k left := by rw [List.length_take]; omega
  refine ⟨by unfold Sp.tear; simp only [h3]; exact Nat.le_refl _, by unfold Sp.tear; simp only [h3]; omega, fun i hi => ?_, h.st⟩
  unfold Sp.tear at hi ⊢
  simp only [h3] at hi ⊢
  rw [tx_take _ _ _ hi]; exact h.cont i (by omega)
theorem Sp.Fits.save (h : s.Fits m) (c : List UInt8) (hc : OkC c) : (s.save c).Fits m := by
  unfold Sp.save
  split
  · exact h
  · exact ⟨Nat.le_refl _, Nat.zero_le _, fun i hi => absurd hi (Nat.not_lt_zero i), by rcases hc with hc | hc; exact hc; contradiction⟩
theorem Sp.Fits.more (h : s.Fits m) {m' : Nat} (hm : m ≤ m') : s.Fits m' := ⟨h.safe, Nat.le_trans h.len hm, h.cont, h.st⟩
theorem Sp.Fits.step (h : s.Fits m) (p : Stp) (hp : OkC p.c) : (s.step p).Fits (m + 1) := by
  unfold Sp.step
  split
  · exact h.app _ hp
  split
  · exact h.sync.more (by omega)
  split
  · exact (h.tear _).more (by omega)
  split
  · exact (h.save _ hp).more (by omega)
  · exact h.more (by omega)
theorem Sp.run_snoc (ss : List Stp) (i : Nat) (h : i < ss.length) : Sp.run (ss.take (i + 1)) = (Sp.run (ss.take i)).step (stp ss i) := by
  unfold Sp.run stp
  rw [List.take_add_one, List.getElem?_eq_getElem h, List.foldl_append]; rfl
theorem Sp.Fits.run (ss : List Stp) (h : ∀ i, i < ss.length → OkC (stp ss i).c) : ∀ k, k ≤ ss.length → (Sp.run (ss.take k)).Fits k := by
  intro k
  induction k with
  | zero => intro _; rw [List.take_zero]; exact .new
  | succ k ih =>
    intro hk
    rw [Sp.run_snoc ss k hk]
    exact (ih (by omega)).step _ (h k hk)
theorem Sp.Fits.all (h : s.Fits m) : ∀ i, i < s.cs.length → (tx s.cs i).length ≤ 65536 := fun i hi => by have := h.cont i hi; omega
end

/-- A disk in memory that is this one. -/
def SpAt (G : Nat → Prop) (w0 : World) (D : Nat) (s : Sp) (w : World) : Prop := SoloG G w0 D (joinB s.cs) (spos s.cs s.k) s.st s.has w
def GoesS (G : Nat → Prop) (w0 w : World) (D : Nat) (r : Ending) (s : Sp) (e : Ending) (w' : World) : Prop := e = r ∧ SpAt G w0 D s w' ∧ Upd (Off G w0) w w'
section
variable {G : Nat → Prop} {w0 w : World} {D : Nat} {s : Sp} {m : Nat}
theorem SpAt.out (h : SpAt G w0 D s w) : Below w0.heap.size w0 w := SoloG.out h
theorem SpAt.below (h : SpAt G w0 D s w) {w' : World} (hb : Below w.heap.size w w') : SpAt G w0 D s w' := SoloG.below h hb
theorem sp_new (w : World) : Calls Tryd.prog 48 #[] w fun e w' => e = .returned (.pointer (some ⟨w.heap.size + 1, 0, none⟩)) ∧ SpAt (fun _ => False) w (w.heap.size + 1) Sp.new w' :=
  (solo_new w).mono (fun _ _ h => ⟨h.1, by obtain ⟨h, h1, h2, h3⟩ := h.2; exact ⟨h, h1, h2, h3, fun _ hf => hf.elim⟩⟩)
theorem sp_append (h : SpAt G w0 D s w) (hm : s.Fits m) (hm2 : m ≤ 1000) (a : Option Addr) (c : List UInt8) (n cap : Nat) (r : Int) (hr : errN c = r) (hn : c.length = n) (hc : OkC c) (hmx : n ≤ 9223372036854775807) (hb : BytesAt w a c) (hnc : a = none → cap = 0) (hf : Fours w) :
    Calls Tryd.prog 43 #[.pointer (some ⟨D, 0, none⟩), .slice a n cap] w (GoesS G w0 w D (.returned (.int .i64 r)) (s.app c)) := by
  subst hr
  have hj := joinB_most s.cs hm.cont
  have := hm.len
  rcases hc with hc | hc
  · have e : s.app c = { s with cs := s.cs ++ [c] } := by unfold Sp.app; rw [if_neg (by omega)]
    have e2 : errN c = 0 := by unfold errN; rw [if_neg (by omega)]
    rw [e, e2]
    refine (sg_append h a c n cap 0 (joinB (s.cs ++ [c])) hn (by omega) hb hnc hf (appE_ok _ _ (by omega) (by omega)) (by rw [appL_ok _ _ (by omega) (by omega), join_snoc])).mono ?_
    rintro e w' ⟨k1, k2, k3⟩
    refine ⟨k1, ?_, k3⟩
    unfold SpAt
    simp only
    rw [spos_snoc _ _ _ hm.safe]
    exact k2
  · have e : s.app c = s := by unfold Sp.app; rw [if_pos hc]
    have e2 : errN c = 11 := by unfold errN; rw [if_pos hc]
    rw [e, e2]
    obtain ⟨h, rfl, h2, h3, h4⟩ := h
    exact (disk_append_long9 h2 a n cap (by omega) hmx).mono (fun _ _ k => SoloG.did rfl h3 h4 h2 k)
theorem sp_sync (h : SpAt G w0 D s w) : Calls Tryd.prog 49 #[.pointer (some ⟨D, 0, none⟩)] w (GoesS G w0 w D (.returned (.tuple #[])) s.sync) := by
  refine (sg_sync h).mono ?_
  rintro e w' ⟨k1, k2, k3⟩
  refine ⟨k1, ?_, k3⟩
  unfold SpAt Sp.sync
  simp only
  rw [spos_all _ _ (Nat.le_refl _)]
  exact k2
theorem sp_tear (h : SpAt G w0 D s w) (hm : s.Fits m) (hf : Fours w) (left : Int) : Calls Tryd.prog 46 #[.pointer (some ⟨D, 0, none⟩), .int .i64 left] w (GoesS G w0 w D (.returned (.tuple #[])) (s.tear left)) := by
  obtain ⟨N, hN⟩ : ∃ N, spos s.cs s.k + tornN (joinB s.cs).length (spos s.cs s.k) left = N := ⟨_, rfl⟩
  obtain ⟨h1, h2, h3, h4⟩ := tornK_spec s.cs s.k left hm.safe N hN
  obtain ⟨t1, t2, t3, t4⟩ := torn s.cs hm.all N _ h2 h1 h3 h4
  have hp := t1 _ (Nat.le_refl _)
  refine (sg_tear h hf left _ _ N _ hN t2 (by rw [hp, t3]; split <;> decide) hp (join_take _ _)).mono ?_
  rintro e w' ⟨k1, k2, k3⟩
  refine ⟨k1, ?_, k3⟩
  unfold SpAt Sp.tear
  simp only
  rw [spos_take]
  exact k2
theorem sp_save (h : SpAt G w0 D s w) (a : Option Addr) (c : List UInt8) (n cap : Nat) (r : Int) (hr : errN c = r) (hn : c.length = n) (hc : OkC c) (hmx : n ≤ 9223372036854775807) (hb : BytesAt w a c) (hnc : a = none → cap = 0) :
    Calls Tryd.prog 45 #[.pointer (some ⟨D, 0, none⟩), .slice a n cap] w (GoesS G w0 w D (.returned (.int .i64 r)) (s.save c)) := by
  subst hr
  rcases hc with hc | hc
  · have e : s.save c = ⟨[], 0, c, true⟩ := by unfold Sp.save; rw [if_neg (by omega)]
    have e2 : errN c = 0 := by unfold errN; rw [if_neg (by omega)]
    rw [e, e2]
    exact sg_save h a c n cap hn (by omega) hb hnc
  · have e : s.save c = s := by unfold Sp.save; rw [if_pos hc]
    have e2 : errN c = 11 := by unfold errN; rw [if_pos hc]
    rw [e, e2]
    obtain ⟨h, rfl, h2, h3, h4⟩ := h
    exact (disk_save_long9 h2 a n cap (by omega) hmx).mono (fun _ _ k => SoloG.did rfl h3 h4 h2 k)
theorem sp_len (h : SpAt G w0 D s w) : Calls Tryd.prog 41 #[.pointer (some ⟨D, 0, none⟩)] w fun e w' => e = .returned (.int .i64 ((joinB s.cs).length : Int)) ∧ w = w' := solo_len (SoloG.solo h)
theorem sp_safe (h : SpAt G w0 D s w) : Calls Tryd.prog 42 #[.pointer (some ⟨D, 0, none⟩)] w fun e w' => e = .returned (.int .i64 (spos s.cs s.k : Int)) ∧ w = w' := solo_safe (SoloG.solo h)
theorem sp_snap (h : SpAt G w0 D s w) (hm : s.Fits m) : Calls Tryd.prog 47 #[.pointer (some ⟨D, 0, none⟩)] w fun e w' => ∃ v, e = .returned (.tuple #[v, .bool s.has]) ∧ OwnB w' w.heap.size v (snapL s.st s.has) ∧ Below w.heap.size w w' := solo_snap (SoloG.solo h) (by have := hm.st; omega)
theorem sp_records (h : SpAt G w0 D s w) (hm : s.Fits m) (hf : Fours w) : Calls Tryd.prog 40 #[.pointer (some ⟨D, 0, none⟩)] w fun e w' => ∃ v, e = .returned v ∧ ListB w' w.heap.size v s.cs ∧ Below w.heap.size w w' := solo_records (SoloG.solo h) hf s.cs rfl hm.all
end
end Go.Proofs.YtconcmjmdhdgjaaDoor
