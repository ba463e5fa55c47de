/- The contracts of the document's logs that write: Put, cut, Forget, Jump, New. -/
import Derived.Test.YtjkgbofeogaeoaaRef1
namespace Go.Proofs.Ytjkgbofeogaeoaa
open Go.RowKit Go.Shelf Go.Maps

section
variable {B R c : Nat} {w w' : World} {v : Value} {l : List (Int × ByteArray)} {s : Ls}
/-- A log of the document that is said to be another one, whose base and values are the same. -/
theorem RefAt.as {s' : Ls} (h : RefAt B w R v l c s) (hb : s'.base = s.base) (hf : ∀ k, s'.f k = s.f k) (hk : Lk s') : RefAt B w R v l c s' :=
  ⟨by rw [hb]; exact h.blk, h.own, h.len, fun k => by rw [hf]; exact h.abs k, h.ne, hk, h.lo⟩
theorem rcheck88 (h : RefAt B w R v l c s) (u : Int) (e : Int) (he : (if u < 0 ∨ 4096 < u then (2 : Int) else 0) = e) : Calls Try.prog 88 #[.pointer (some ⟨R, 0, none⟩), .int .i64 u] w fun e' w' => e' = .returned (.int .i64 e) ∧ w = w' := by
  have HV := Lib.hid (valid87 h)
  subst he
  clear h
  by_cases h0 : u < 0
  · rw [if_pos (.inl h0)]
    go_enter Try.func88, Try.ntmps88
    go_wp2_with (go_at_call 87; refine HV.out.mono ?_; rintro e w' ⟨rfl, rfl⟩)
    go_ret
    exact ⟨rfl, rfl⟩
  · by_cases h4 : 4096 < u
    · rw [if_pos (.inr h4)]
      go_enter Try.func88, Try.ntmps88
      go_wp2_with (go_at_call 87; refine HV.out.mono ?_; rintro e w' ⟨rfl, rfl⟩)
      go_ret
      exact ⟨rfl, rfl⟩
    · rw [if_neg (by omega)]
      go_enter Try.func88, Try.ntmps88
      go_wp2_with (go_at_call 87; refine HV.out.mono ?_; rintro e w' ⟨rfl, rfl⟩)
      go_ret
      exact ⟨rfl, rfl⟩
set_option maxRecDepth 20000 in
set_option maxHeartbeats 2000000 in
theorem rput41 (h : RefAt B w R v l c s) (hB : B ≤ w.heap.size) (hc : c < 1000000) (k : Int) (u : ByteArray) (hu9 : u.size ≤ 9223372036854775807) : Calls Try.prog 41 #[.pointer (some ⟨R, 0, none⟩), .int .i64 k, .string u] w (RefTo B w R v (.int .i64 (putE s k u)) (c + 1) (putT s k u)) := by
  obtain ⟨c0, c1, c2, zR, cf⟩ := h.cells
  have HV := Lib.hid (And.intro (valid87 h) h)
  by_cases hk : k < 0 ∨ 4096 ≤ k
  · have hE : putE s k u = 2 := putE_arg hk
    have hT : putT s k u = s := putT_no (by rw [hE]; decide)
    rw [hE, hT]
    clear h hE hT
    rcases hk with hk | hk
    · go_enter Try.func41, Try.ntmps41
      go_wp2_with (go_at_call 87; refine HV.out.1.mono ?_; rintro e w' ⟨rfl, rfl⟩)
      go_ret
      exact RefTo.same HV.out.2 _
    · have hk0 : ¬ k < 0 := by omega
      go_enter Try.func41, Try.ntmps41
      go_wp2_with (go_at_call 87; refine HV.out.1.mono ?_; rintro e w' ⟨rfl, rfl⟩)
      go_ret
      exact RefTo.same HV.out.2 _
  · have hk0 : ¬ k < 0 := by omega
    have hk4 : k < 4096 := by omega
    by_cases hl : 65536 < u.size
    · have hE : putE s k u = 11 := by unfold putE; rw [if_neg hk, if_pos hl]
      have hT : putT s k u = s := putT_no (by rw [hE]; decide)
      rw [hE, hT]
      clear h hE hT hk
      go_enter Try.func41, Try.ntmps41
      go_wp2_with (go_at_call 87; refine HV.out.1.mono ?_; rintro e w' ⟨rfl, rfl⟩)
      go_ret
      exact RefTo.same HV.out.2 _
    · by_cases hb : k < s.base
      · have hE : putE s k u = 8 := by unfold putE; rw [if_neg hk, if_neg hl, if_pos hb]
        have hT : putT s k u = s := putT_no (by rw [hE]; decide)
        rw [hE, hT]
        clear h hE hT hk
        go_enter Try.func41, Try.ntmps41
        go_wp2_with (go_at_call 87; refine HV.out.1.mono ?_; rintro e w' ⟨rfl, rfl⟩)
        go_ret
        exact RefTo.same HV.out.2 _
      · cases hf : s.f k with
        | some x =>
          have HG := Lib.hid (rget_v h (by omega) k x true (by rw [hf]; rfl) (by rw [hf]; rfl))
          by_cases hx : x = u
          · have hE : putE s k u = 0 := putE_zero (by omega) hk4 (by omega) (by omega) (.inr (by rw [hf, hx]))
            obtain ⟨p1, p2, -⟩ := putT_ok hE
            have HT := Lib.hid (h.as (s' := putT s k u) p2 (fun j => by
              rw [p1]
              by_cases e : j = k
              · rw [e, updS_same, hf, hx]
              · rw [updS_other _ _ e]) (h.ok.putT _ _))
            rw [hE]
            have hxb : (x.toList == u.toList) = true := by rw [hx]; simp
            clear h hE hk p1 p2 hf hx
            go_enter Try.func41, Try.ntmps41
            go_wp2_with (first
              | (go_at_call 87; refine HV.out.1.mono ?_; rintro e w' ⟨rfl, rfl⟩)
              | (go_at_call 67; refine HG.out.mono ?_; rintro e w' ⟨rfl, rfl⟩))
            go_ret
            exact RefTo.same HT.out _
          · have hE : putE s k u = 9 := by unfold putE; rw [if_neg hk, if_neg hl, if_neg hb, if_pos ⟨by rw [hf]; rfl, by rw [hf]; exact fun e => hx (Option.some.inj e)⟩]
            have hT : putT s k u = s := putT_no (by rw [hE]; decide)
            rw [hE, hT]
            have hne : (x.toList == u.toList) = false := by
              rw [beq_eq_false_iff_ne]
              intro e
              rw [ByteArray.toList_eq, ByteArray.toList_eq] at e
              exact hx (bytes_eq e)
            clear h hE hT hk hf hx
            go_enter Try.func41, Try.ntmps41
            go_wp2_with (first
              | (go_at_call 87; refine HV.out.1.mono ?_; rintro e w' ⟨rfl, rfl⟩)
              | (go_at_call 67; refine HG.out.mono ?_; rintro e w' ⟨rfl, rfl⟩))
            go_ret
            exact RefTo.same HV.out.2 _
        | none =>
          have HG := Lib.hid (rget_v h (by omega) k ⟨#[]⟩ false (by rw [hf]; rfl) (by rw [hf]; rfl))
          have hE : putE s k u = 0 := putE_zero (by omega) hk4 (by omega) (by omega) (.inl hf)
          obtain ⟨p1, p2, -⟩ := putT_ok hE
          obtain ⟨n, hn⟩ : ∃ n, l.length = n := ⟨_, rfl⟩
          obtain ⟨A, C, rfl, hnC, hC⟩ := h.own.shape n hn
          have hC9 : C ≤ 9223372036854775807 := hC
          have HT := Lib.hid (And.intro (show ∀ j, rget (l ++ [(k, u)]) j = (putT s k u).f j from fun j => by
            rw [rget_snoc, h.abs, p1]
            by_cases e : j = k
            · subst e
              rw [updS_same, hf]
              show (if j = j then some u else none) = some u
              rw [if_pos rfl]
            · rw [updS_other _ _ e]
              cases s.f j with
              | some y => rfl
              | none => show (if k = j then some u else none) = none; rw [if_neg (fun e2 => e e2.symm)]) (And.intro p2 (And.intro (h.ok.putT k u) hn)))
          rw [hE]
          clear h hE hk p1 p2 hf hn
          go_enter Try.func41, Try.ntmps41
          go_wp2_with (first
            | (go_at_call 87; refine HV.out.1.mono ?_; rintro e w' ⟨rfl, rfl⟩)
            | (go_at_call 67; refine HG.out.mono ?_; rintro e w' ⟨rfl, rfl⟩)
            | (at_builtin; refine wpList_append_slot rfl _ _ rfl B (.slice A n C) l rfl (HV.out.2.own.below ((Below.refl _ _).alloc (Nat.le_refl _) _)) w.heap.size (k, u) rfl (blk_new _ _) (by have := HV.out.2.len; omega) (by simp; omega) ?_; intro v2 w2 hu2 hg2 hn2; obtain ⟨A2, C2, rfl, -, -⟩ := hu2.shape (n + 1) (by rw [List.length_append, HT.out.2.2.2]; rfl); have k2 := grow_blk hg2 (blk_alloc HV.out.2.blk _) (fun e => HV.out.2.ne e.symm); have H2 := Lib.hid (And.intro hu2 (And.intro hg2 (And.intro hn2 k2))); have x2 := cell_blk k2 2; have xf := free_blk k2 2; have z2 := lt_of_blk k2; simp at x2; clear hu2 hg2 hn2 k2))
          go_ret
          obtain ⟨hu2, hg2, hn2, k2⟩ := H2.out
          have hR2 : (Value.slice A2 (n + 1) C2).ownBlock ≠ some R := fun e => by
            rcases hn2 with h1 | h1
            · exact HV.out.2.ne (h1 ▸ e)
            · rw [e] at h1; have := Option.some.inj h1; simp at this; omega
          refine ⟨rfl, _, _, ⟨?_, hu2.upd (F := fun z => z = R) ((Upd.refl _ _).setCell _ _ (.inl rfl)) (fun g hg e => hR2 (e ▸ hg)), by rw [List.length_append]; have := HV.out.2.len; simp; omega, HT.out.1, hR2, HT.out.2.2.1, HV.out.2.lo⟩, ?_, fun g hg => ?_⟩
          · rw [HT.out.2.1]; simpa using blk_set k2 2 (.slice A2 (n + 1) C2)
          · exact (((Upd.refl _ w).alloc _).grown hg2 (fun b hb => .inl (.inr hb))).setCell _ _ (.inl (.inl rfl))
          · rcases hn2 with h1 | h1
            · exact .inl (h1 ▸ hg)
            · rw [hg] at h1; have := Option.some.inj h1; simp at this; right; omega
theorem rnew39 (w : World) : Calls Try.prog 39 #[] w fun e w' => ∃ R, e = .returned (.pointer (some ⟨R, 0, none⟩)) ∧ RefAt w.heap.size w' R (.slice none 0 0) [] 0 e0 ∧ Below w.heap.size w w' := by
  go_enter Try.func39, Try.ntmps39
  go_wp2
  go_ret
  exact ⟨w.heap.size, rfl, ⟨blk_new _ _, World.ownsRow_nil _ _ _ _, Nat.le_refl _, fun k => rfl, (fun e => by cases e), .empty, Nat.le_refl _⟩, by go_grown⟩
end
end Go.Proofs.Ytjkgbofeogaeoaa
