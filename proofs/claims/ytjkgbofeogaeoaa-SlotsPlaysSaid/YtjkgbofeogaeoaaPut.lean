/- The contract of Put. -/
import Derived.Test.YtjkgbofeogaeoaaSpec
import Derived.Shelf.Abstract
namespace Go.Proofs.Ytjkgbofeogaeoaa
open Go.RowKit Go.Shelf Go.Maps

theorem lit_ne {j k : Int} (h : j ≠ k) : (Lit.int .i64 j) ≠ (Lit.int .i64 k) := fun e => h (by injection e)
theorem MapOf.put {w w' : World} {b n m : Nat} {f : Int → Option ByteArray} {d : DataW Unit} (hf : ∀ k, inI k → has d (.int .i64 k) = (f k).isSome ∧ ∀ z, d.atKey (.int .i64 k) z = (match f k with | some s => .lit (.string s.data.toList) | none => z)) (hd : w.ownsMap Try.prog 3 (plainElem Try.prog 9) b n d)
    (k : Int) (v : ByteArray) (h : w'.ownsMap Try.prog 3 (plainElem Try.prog 9) b m (d.put (.int .i64 k) (.lit (.string v.data.toList)))) : MapOf w' b m (updS f k v) := by
  have hm : IsMap d := by obtain ⟨es, clock, -, -, -, e⟩ := hd; exact ⟨_, e⟩
  refine ⟨_, h, fun j hj => ?_⟩
  by_cases e : j = k
  · subst e
    rw [updS_same]
    exact ⟨has_put_same hm (show WideAt.IsKeyLit (.int .i64 j) from trivial) _, fun z => atKey_put_same hm (show WideAt.IsKeyLit (.int .i64 j) from trivial) _ z⟩
  · rw [updS_other _ _ e]
    exact ⟨(has_put_other (lit_ne e) _).trans (hf j hj).1, fun z => (atKey_put_other (lit_ne e) _ z).trans ((hf j hj).2 z)⟩

theorem grow_blk {w w' : World} {row : Option Nat} {b : Nat} {o : Obj} (hg : w.grownBy w' row) (h : w.heap[b]? = some o) (hne : some b ≠ row) : w'.heap[b]? = some o := (hg.block b (lt_of_blk h) hne).trans h
/-- What Put leaves. -/
def PutTo (w : World) (D b n : Nat) (s : Ls) (k : Int) (v : ByteArray) (e : Ending) (w' : World) : Prop :=
  e = .returned (.int .i64 (putE s k v)) ∧ (∃ m, m ≤ n + 1 ∧ LogAt w' D b m (putT s k v)) ∧ Upd (fun x => x = D ∨ x = b) w w'
section
variable {w : World} {D b n : Nat} {s : Ls}
theorem putTo_same {k : Int} {v : ByteArray} {x : Int} (h : LogAt w D b n s) (hx : putE s k v = x) (h0 : x ≠ 0) : PutTo w D b n s k v (.returned (.int .i64 x)) w := by
  have ht : putT s k v = s := by unfold putT; rw [if_neg (by rw [hx]; exact h0)]
  exact ⟨by rw [hx], ⟨n, Nat.le_succ n, by rw [ht]; exact h⟩, .refl _ _⟩
theorem put_arg (h : LogAt w D b n s) (k : Int) (v : ByteArray) (hk : k < 0 ∨ 4096 ≤ k) : Calls Try.prog 23 #[.pointer (some ⟨D, 0, none⟩), .int .i64 k, .string v] w (PutTo w D b n s k v) := by
  have hp := putTo_same (x := 2) (k := k) (v := v) h (by unfold putE; rw [if_pos hk]) (by decide)
  have HM := Lib.hid (made_any h)
  clear h
  have HP := Lib.hid hp
  clear hp
  rcases hk with hk | hk
  · go_enter Try.func23, Try.ntmps23
    go_wp2_with (go_at_call 71; refine HM.out.mono ?_; rintro e w' ⟨rfl, rfl⟩)
    go_ret
    exact HP.out
  · have hk2 : ¬ k < 0 := by omega
    go_enter Try.func23, Try.ntmps23
    go_wp2_with (go_at_call 71; refine HM.out.mono ?_; rintro e w' ⟨rfl, rfl⟩)
    go_ret
    exact HP.out
theorem put_long (h : LogAt w D b n s) (k : Int) (v : ByteArray) (k0 : 0 ≤ k) (k4 : k < 4096) (hv : 65536 < v.size) (hv9 : v.size ≤ 9223372036854775807) : Calls Try.prog 23 #[.pointer (some ⟨D, 0, none⟩), .int .i64 k, .string v] w (PutTo w D b n s k v) := by
  have hp := putTo_same (x := 11) (k := k) (v := v) h (by unfold putE; rw [if_neg (by omega), if_pos hv]) (by decide)
  have HM := Lib.hid (made_any h)
  clear h
  have HP := Lib.hid hp
  clear hp
  have hk2 : ¬ k < 0 := by omega
  have hk3 : ¬ 4096 ≤ k := by omega
  go_enter Try.func23, Try.ntmps23
  go_wp2_with (go_at_call 71; refine HM.out.mono ?_; rintro e w' ⟨rfl, rfl⟩)
  go_ret
  exact HP.out
theorem put_order (h : LogAt w D b n s) (k : Int) (v : ByteArray) (k0 : 0 ≤ k) (k4 : k < 4096) (hv : v.size ≤ 65536) (hb : k < s.base) : Calls Try.prog 23 #[.pointer (some ⟨D, 0, none⟩), .int .i64 k, .string v] w (PutTo w D b n s k v) := by
  have hp := putTo_same (x := 8) (k := k) (v := v) h (by unfold putE; rw [if_neg (by omega), if_neg (by omega), if_pos hb]) (by decide)
  have HM := Lib.hid (made_any h)
  have c1 := cell_blk h.blk 1
  simp at c1
  have zD := lt_of_blk h.blk
  clear h
  have HP := Lib.hid hp
  clear hp
  have hk2 : ¬ k < 0 := by omega
  have hk3 : ¬ 4096 ≤ k := by omega
  have hv2 : ¬ 65536 < v.size := by omega
  go_enter Try.func23, Try.ntmps23
  go_wp2_with (go_at_call 71; refine HM.out.mono ?_; rintro e w' ⟨rfl, rfl⟩)
  go_ret
  exact HP.out
set_option maxRecDepth 20000 in
theorem put_state (h : LogAt w D b n s) (k : Int) (v x : ByteArray) (k0 : 0 ≤ k) (k4 : k < 4096) (hv : v.size ≤ 65536) (hb : s.base ≤ k) (hx : s.f k = some x) (hne : x ≠ v) : Calls Try.prog 23 #[.pointer (some ⟨D, 0, none⟩), .int .i64 k, .string v] w (PutTo w D b n s k v) := by
  have hp := putTo_same (x := 9) (k := k) (v := v) h (by unfold putE; rw [if_neg (by omega), if_neg (by omega), if_neg (by omega), if_pos ⟨by rw [hx]; rfl, by rw [hx]; exact fun e => hne (Option.some.inj e)⟩]) (by decide)
  have HM := Lib.hid (made_any h)
  have c0 := cell_blk h.blk 0
  have c1 := cell_blk h.blk 1
  simp at c0 c1
  have zD := lt_of_blk h.blk
  have hlook := h.mp.look k (by unfold inI; omega)
  rw [hx] at hlook
  simp only [Option.getD_some, Option.isSome_some] at hlook
  clear h
  have HP := Lib.hid hp
  clear hp hx
  have hk2 : ¬ k < 0 := by omega
  have hk3 : ¬ 4096 ≤ k := by omega
  have hv2 : ¬ 65536 < v.size := by omega
  have hb2 : ¬ k < s.base := by omega
  have hq : (x.toList == v.toList) = false := by
    rw [beq_eq_false_iff_ne]
    intro e
    rw [ByteArray.toList_eq, ByteArray.toList_eq] at e
    exact hne (bytes_eq e)
  go_enter Try.func23, Try.ntmps23
  go_wp2_with (go_at_call 71; refine HM.out.mono ?_; rintro e w' ⟨rfl, rfl⟩)
  go_ret
  exact HP.out

theorem put_fill {w1 : World} {d : DataW Unit} {k : Int} {v : ByteArray} (hd : w.ownsMap Try.prog 3 (plainElem Try.prog 9) b n d) (hf : ∀ k, inI k → has d (.int .i64 k) = (s.f k).isSome ∧ ∀ z, d.atKey (.int .i64 k) z = (match s.f k with | some s => .lit (.string s.data.toList) | none => z))
    (h1 : w1.ownsMap Try.prog 3 (plainElem Try.prog 9) b (n + 1) (d.put (.int .i64 k) (.lit (.string v.data.toList)))) (hg : w.grownBy w1 (some b)) (hb : w1.heap[D]? = some (.cells #[.map (some b), .int .i64 s.base, .int .i64 s.upto, .int .i64 s.top] 58)) (hne : b ≠ D) (hk : Lk s) (k0 : 0 ≤ k) (k4 : k < 4096)
    (t : Int) (ht : t = max s.top (k + 1)) : Calls Try.prog 72 #[.pointer (some ⟨D, 0, none⟩)] (w1.setCell ⟨D, 3, none⟩ (.int .i64 t)) fun e w2 => e = .returned (.tuple #[]) ∧ LogAt w2 D b (n + 1) (putS s k v) ∧ Upd (fun x => x = D ∨ x = b) w w2 := by
  have HL : LogAt (w1.setCell ⟨D, 3, none⟩ (.int .i64 t)) D b (n + 1) { f := updS s.f k v, base := s.base, upto := s.upto, top := t } :=
    ⟨by simpa using blk_set hb 3 (.int .i64 t), (MapOf.put hf hd k v h1).of_blk (Below.heap_setCell _ _ _ _ hne)⟩
  refine (fill_any HL (Int.le_trans hk.b0 hk.bu) (Int.le_trans hk.ut hk.t4) (by show t ≤ 4096; have := hk.t4; omega)).mono ?_
  rintro e w2 ⟨rfl, hl2, hU2⟩
  refine ⟨rfl, ?_, ?_⟩
  · unfold putS
    rw [← ht]
    exact hl2
  · exact (((Upd.refl (fun x => x = D ∨ x = b) w).grown hg (fun x e => by cases e; exact .inl (.inr rfl))).setCell _ _ (.inl (.inl rfl))).trans hU2 (fun x e => .inl (.inl e))
set_option maxRecDepth 20000 in
set_option maxHeartbeats 4000000 in
theorem put_ok (h : LogAt w D b n s) (hk : Lk s) (hn : n < 1000000) (k : Int) (v : ByteArray) (k0 : 0 ≤ k) (k4 : k < 4096) (hv : v.size ≤ 65536) (hb : s.base ≤ k) (hx : (s.f k).isSome = true → s.f k = some v) : Calls Try.prog 23 #[.pointer (some ⟨D, 0, none⟩), .int .i64 k, .string v] w (PutTo w D b n s k v) := by
  have hp : putE s k v = 0 := by
    unfold putE
    rw [if_neg (by omega), if_neg (by omega), if_neg (by omega), if_neg (fun h => h.2 (hx h.1))]
  have ht : putT s k v = putS s k v := by unfold putT; rw [if_pos hp]
  unfold PutTo
  rw [hp, ht]
  have HM := Lib.hid (made_any h)
  have HD := Lib.hid h
  have c0 := cell_blk h.blk 0
  have c1 := cell_blk h.blk 1
  have c3 := cell_blk h.blk 3
  simp at c0 c1 c3
  have zD := lt_of_blk h.blk
  have hlook := h.mp.look k (by unfold inI; omega)
  obtain ⟨x, hxx⟩ : ∃ x, (s.f k).getD ⟨#[]⟩ = x := ⟨_, rfl⟩
  obtain ⟨c, hc⟩ : ∃ c, (s.f k).isSome = c := ⟨_, rfl⟩
  have hq : c = true → (x.toList == v.toList) = true := fun e => by
    have := hx (hc.trans e)
    rw [this] at hxx
    simp at hxx
    simp [hxx]
  rw [hxx, hc] at hlook
  clear hxx hc hx hp ht
  obtain ⟨d, hd, hf⟩ := h.mp
  have HF := Lib.hid hf
  have hbD := h.mp.ne h.blk
  clear h hf
  have hk2 : ¬ k < 0 := by omega
  have hk3 : ¬ 4096 ≤ k := by omega
  have hv2 : ¬ 65536 < v.size := by omega
  have hb2 : ¬ k < s.base := by omega
  have hkey := keyI k (by unfold inI; omega)
  have h04 := hk.t4
  have h00 : 0 ≤ s.top := Int.le_trans (Int.le_trans hk.b0 hk.bu) hk.ut
  have HK := Lib.hid hk
  clear hk
  have HN := Lib.hid hbD
  clear hbD
  have HE := Lib.hid (And.intro hd hkey)
  clear hd hkey
  cases c
  all_goals
    try have hq' := hq rfl
    clear hq
    go_enter Try.func23, Try.ntmps23
    go_wp2_with (first
      | (go_at_call 71; refine HM.out.mono ?_; rintro e w' ⟨rfl, rfl⟩)
      | (at_mapUpdate; refine wpList_mapUpdate_own _ rfl _ _ _ 56 rfl 3 9 lawK Try.underlying56 _ b n _ rfl HE.out.1 (by unfold maxLen; omega) _ _ _ rfl rfl HE.out.2 _ [] (plainElem_string Try.underlying9 (by unfold maxLen; omega)) ?_))
    intro w1 hown1 hgrow1
    have hblk := grow_blk hgrow1 HD.out.blk (fun e => HN.out (Option.some.inj e).symm)
    have c3' := cell_blk hblk 3
    have f3' := free_blk hblk 3
    simp at c3'
    have zD' := lt_of_blk hblk
    have HG := Lib.hid (And.intro hown1 (And.intro hgrow1 hblk))
    clear hown1 hgrow1 hblk c0 c1 c3 zD hlook
    go_wp2_with fail
    all_goals
      refine (put_fill HE.out.1 HF.out HG.out.1 HG.out.2.1 HG.out.2.2 HN.out HK.out k0 k4 _ (by omega)).mono ?_
      rintro e w2 ⟨rfl, hl2, hU2⟩
      have HZ := Lib.hid (And.intro hl2 hU2)
      clear hl2 hU2
      go_wp2
      go_ret
      exact ⟨rfl, ⟨n + 1, Nat.le_refl _, HZ.out.1⟩, HZ.out.2⟩
theorem put_any (h : LogAt w D b n s) (hk : Lk s) (hn : n < 1000000) (k : Int) (v : ByteArray) (hv9 : v.size ≤ 9223372036854775807) : Calls Try.prog 23 #[.pointer (some ⟨D, 0, none⟩), .int .i64 k, .string v] w (PutTo w D b n s k v) := by
  by_cases h1 : k < 0 ∨ 4096 ≤ k
  · exact put_arg h k v h1
  by_cases h2 : 65536 < v.size
  · exact put_long h k v (by omega) (by omega) h2 hv9
  by_cases h3 : k < s.base
  · exact put_order h k v (by omega) (by omega) (by omega) h3
  by_cases h4 : (s.f k).isSome = true → s.f k = some v
  · exact put_ok h hk hn k v (by omega) (by omega) (by omega) (by omega) h4
  · cases hx : s.f k with
    | none => rw [hx] at h4; simp at h4
    | some x => exact put_state h k v x (by omega) (by omega) (by omega) (by omega) hx (fun e => h4 (fun _ => by rw [hx, e]))
end
end Go.Proofs.Ytjkgbofeogaeoaa
