/- Several messages appended to a list of the call's own, which stays readable; the contract of samePlace. -/
import Derived.Test.YtjkgbofeogaeoaaFTwo
import Derived.Test.YtjkgbofeogaeoaaOrderS
namespace Go.Proofs.Ytjkgbofeogaeoaa
open Go.RowKit Go.Shelf Go.Maps

theorem mcs_one (l : List Mc) : ∀ u ∈ mcells l, u.oneCell' = true := by
  intro u hu
  unfold mcells at hu
  rw [List.mem_flatMap] at hu
  obtain ⟨m, -, hu⟩ := hu
  simp [mcs] at hu
  rcases hu with rfl | rfl | rfl | rfl | rfl | rfl | rfl | rfl | rfl <;> rfl
theorem QOwn.cells {w : World} {B g n C : Nat} {l : List Mc} (h : QOwn w B (.slice (some ⟨g, 0, none⟩) n C) l) : ∃ cur, w.heap[g]? = some (.cells cur 74) ∧ B ≤ g ∧ l.length = n ∧ l.length ≤ C ∧ C ≤ maxLen ∧ cur.size = C * 9 ∧ cur.toList.take (l.length * 9) = mcells l := by
  rcases h.2 with ⟨h1, h2⟩ | ⟨g', cap, cur, h1, h2, h3, h4, h5, h6, h7⟩
  · cases h1
  · cases h1
    exact ⟨cur, h3, h2, rfl, h4, h5, h6, h7⟩
/-- Appending messages: the old list stays readable. -/
theorem run_append_msgs (w : World) (ty : TypeId) (B : Nat) (v : Value) (l : List Mc) (hown : QOwn w B v l) (a : Addr) (k C : Nat) (m : List Mc) (hk : m.length = k) (hx : ∀ j u, (mcells m)[j]? = some u → w.cell? (a.add j) = some u)
    (hlen : l.length + k ≤ 1000000) (hB : B ≤ w.heap.size) :
    ∃ v' w', (Builtin.append_ #[67, 67] ty #[v, .slice (some a) k C]).run Try.prog w = .ok v' w' ∧ QOwn w' B v' (l ++ m) ∧ QOwn w' B v l ∧ w.grownBy w' v.ownBlock ∧ (v'.ownBlock = v.ownBlock ∨ v'.ownBlock = some w.heap.size) := by
  subst hk
  obtain ⟨i0, hi, hz0, hz1, hz2⟩ := info_parts Try.info74
  obtain ⟨v', w', hr, h2, h3, h4, h5⟩ := run_append_own_at (P := Try.prog) w B 67 ty 74 i0 _ 9 96 Try.underlying67 hi hz0 hz1 hz2 rfl (by decide) v l.length (mcells l) hown a m.length C (mcells m) (mcells_len m) hx (mcs_one m)
    (by unfold maxLen; omega) (by omega) hB
  have hq : QOwn w' B v' (l ++ m) := by unfold QOwn; rw [List.length_append, mcells_append]; exact h2
  refine ⟨v', w', hr, hq, ?_, h3, h5⟩
  rcases hown.2 with ⟨rfl, hl⟩ | ⟨g, cap, cur, hv, hBg, hg, hn, hm, hs, ht⟩
  · exact ⟨hown.1, .inl ⟨rfl, hl⟩⟩
  · subst hv
    by_cases hroom : l.length + m.length ≤ cap
    · have hr2 := run_append_room (P := Try.prog) w 67 ty 74 i0 Try.underlying67 hi g l.length cap cur hg a m.length C (mcells m) (by rw [mcells_len, hz1]) hx (mcs_one m) hroom (by rw [hz1, mcells_len, hs]; omega)
      rw [hr] at hr2
      cases hr2
      obtain ⟨cur', k1, k2, k3, k4, k5, k6, k7⟩ := hq.cells
      refine ⟨hown.1, .inr ⟨g, cap, cur', rfl, hBg, k1, hn, hm, k6, ?_⟩⟩
      have e : cur'.toList.take (l.length * 9) = (cur'.toList.take ((l ++ m).length * 9)).take (l.length * 9) := by rw [List.take_take, Nat.min_eq_left (by rw [List.length_append]; omega)]
      rw [e, k7, mcells_append, ← mcells_len l, List.take_left]
    · have hr2 := run_append_grow (P := Try.prog) w 67 ty 74 i0 _ Try.underlying67 hi hz0 ⟨g, 0, none⟩ l.length cap (mcells l) (by rw [mcells_len, hz1]) (World.ownsRow.cells hown rfl) a m.length C (mcells m) (by rw [mcells_len, hz1]) hx (by omega) (by omega)
        (growslice_fits (by omega) (by rw [hz2]; omega))
      rw [hr] at hr2
      cases hr2
      have h1 : QOwn w B (.slice (some ⟨g, 0, none⟩) l.length cap) l := hown
      exact h1.below ((Below.refl _ w).drew.alloc (Nat.le_refl _) _)
theorem wpList_append_msgs {w : World} {ops : Array Oper} {rest : List Oper} {o : Oper} {a : Act} {Q : Exit → Act → World → Prop} (hgd : o.guard = none) (s x : Operand)
    (ho : o.op = .call { callee := .builtin .append, args := #[s, x], argTypes := #[67, 67] })
    (B : Nat) (v : Value) (l : List Mc) (hs : a.eval s = v) (hown : QOwn w B v l) (X k C : Nat) (m : List Mc) (hk : m.length = k) (hx : a.eval x = .slice (some ⟨X, 0, none⟩) k C) (hX : w.heap[X]? = some (.cells (mcells m).toArray 74))
    (hlen : l.length + k ≤ 1000000) (hB : B ≤ w.heap.size)
    (h : ∀ v' w', QOwn w' B v' (l ++ m) → QOwn w' B v l → w.grownBy w' v.ownBlock → (v'.ownBlock = v.ownBlock ∨ v'.ownBlock = some w.heap.size) → wpList Try.prog ops Q rest (a.put o.dst v') w') :
    wpList Try.prog ops Q (o :: rest) a w := by
  refine wpList_plain hgd fun K hK => ?_
  obtain ⟨v', w', hr, h2, h3, h4, h5⟩ := run_append_msgs w o.type B v l hown ⟨X, 0, none⟩ k C m hk (fun j u hu => by rw [Addr.add_lit, Nat.zero_add, cell_blk hX]; simpa using hu) hlen hB
  unfold Oper.wp execOp
  simp only [ho, resolve, invoke, builtin, Sem.run_bind, Sem.run_pure, Result.andThen_ok, List.map_toArray, List.map_cons, List.map_nil, hs, hx, hr]
  exact hK _ _ (h v' w' h2 h3 h4 h5)
/-- Two made logs of the same numbers are alike. -/
theorem IsMade.same {B S Sd : Nat} {s t : Ls} (hs : IsMade B S Sd s) (ht : IsMade B S Sd t) (ks : Lk s) (kt : Lk t) : s.f = t.f ∧ s.base = t.base ∧ s.upto = t.upto := by
  have hf : s.f = t.f := by funext j; rw [hs.f, ht.f]
  have hb : s.base = t.base := by rw [hs.base, ht.base]
  exact ⟨hf, hb, (same_log ks kt hb hf).1⟩
theorem inn_get {w : World} {D : Nat} {s : Ls} (h : LogIn w D s) (k : Int) (hk : inI k) (v : ByteArray) (c : Bool) (hv : (s.f k).getD ⟨#[]⟩ = v) (hc : (s.f k).isSome = c) : Calls Try.prog 32 #[.pointer (some ⟨D, 0, none⟩), .int .i64 k] w fun e w' => e = .returned (.tuple #[.string v, .bool c]) ∧ w = w' := by
  obtain ⟨b, n, h1, -⟩ := h; subst hv hc; exact get_any h1 k hk
theorem inn_upto {w : World} {D : Nat} {s : Ls} (h : LogIn w D s) (x : Int) (hx : s.upto = x) : Calls Try.prog 24 #[.pointer (some ⟨D, 0, none⟩)] w fun e w' => e = .returned (.int .i64 x) ∧ w = w' := by
  obtain ⟨b, n, h1, -⟩ := h; subst hx; exact upto_any h1
theorem inn_base {w : World} {D : Nat} {s : Ls} (h : LogIn w D s) (x : Int) (hx : s.base = x) : Calls Try.prog 28 #[.pointer (some ⟨D, 0, none⟩)] w fun e w' => e = .returned (.int .i64 x) ∧ w = w' := by
  obtain ⟨b, n, h1, -⟩ := h; subst hx; exact base_any h1
set_option maxRecDepth 20000 in
set_option maxHeartbeats 4000000 in
/-- A log that is as it was made. -/
theorem place52 (B S Sd : Nat) (w : World) (hB : B ≤ 255) (hS : S < 18446744073709551616) (hSd : Sd ≤ 255) {D : Nat} {s : Ls} (h : LogIn w D s) (hm : IsMade B S Sd s) :
    Calls Try.prog 52 #[.pointer (some ⟨D, 0, none⟩), .agg #[.int .u8 (B : Int), .int .u64 (S : Int), .int .u8 (Sd : Int)]] w fun e w' => e = .returned (.bool true) ∧ Below w.heap.size w w' := by
  have HM := Lib.hid (fun W => made47 B S Sd W hB hS hSd)
  have HL := Lib.hid (And.intro h hm)
  clear h hm
  go_enter Try.func52, Try.ntmps52
  go_wp2_with fail
  refine (HM.out _).mono ?_
  rintro e w1 ⟨E, b, t, rfl, h1, ht⟩
  have hb0 : Below w.heap.size w (w.alloc (.cells #[.int .u8 (B : Int), .int .u64 (S : Int), .int .u8 (Sd : Int)] 66)) := (Below.refl _ _).alloc (Nat.le_refl _) _
  have hlk : Lk s := by obtain ⟨_, _, _, h⟩ := HL.out.1; exact h
  have H1 := Lib.hid (And.intro (belowStep hb0 h1.out) (And.intro h1.inn (HL.out.2.same ht hlk h1.ok)))
  clear h1 hb0 ht hlk
  go_wp2_with fail
  go_loopw [13] (fun i wr => ∃ j : Nat, j ≤ 64 ∧ i = .int .i64 (j : Int) ∧ w1 = wr) (fun i _ => 64 - (intOf i).toNat)
  case atStart => exact ⟨0, Nat.zero_le _, rfl, by first | rfl | trivial⟩
  case round =>
    obtain ⟨j, hj, rfl, rfl⟩ := hrel
    by_cases hlt : j < 64
    · obtain ⟨v, hv⟩ : ∃ v, (s.f (j : Int)).getD ⟨#[]⟩ = v := ⟨_, rfl⟩
      obtain ⟨c, hc⟩ : ∃ c, (s.f (j : Int)).isSome = c := ⟨_, rfl⟩
      have hg1 := inn_get (HL.out.1.below H1.out.1) (j : Int) (by unfold inI; omega) v c hv hc
      have hg2 := inn_get H1.out.2.1 (j : Int) (by unfold inI; omega) v c (by rw [← H1.out.2.2.1]; exact hv) (by rw [← H1.out.2.2.1]; exact hc)
      have HG := Lib.hid (And.intro hg1 hg2)
      clear hg1 hg2 hv hc
      go_wp2_with fail
      refine HG.out.1.mono ?_
      rintro e w' ⟨rfl, rfl⟩
      go_wp2_with fail
      refine HG.out.2.mono ?_
      rintro e w' ⟨rfl, rfl⟩
      go_wp2
      go_roundw
      case rel => exact ⟨j + 1, hlt, by go_num, by first | rfl | trivial⟩
      case measure => simp [intOf] <;> omega
    · obtain ⟨x, hx⟩ : ∃ x, s.base = x := ⟨_, rfl⟩
      obtain ⟨y, hy⟩ : ∃ y, s.upto = y := ⟨_, rfl⟩
      have HX := Lib.hid (And.intro hx hy)
      clear hx hy
      go_wp2_with fail
      refine (inn_base (HL.out.1.below H1.out.1) x HX.out.1).mono ?_
      rintro e w' ⟨rfl, rfl⟩
      go_wp2_with fail
      refine (inn_base H1.out.2.1 x (by rw [← H1.out.2.2.2.1]; exact HX.out.1)).mono ?_
      rintro e w' ⟨rfl, rfl⟩
      go_wp2_with fail
      refine (inn_upto (HL.out.1.below H1.out.1) y HX.out.2).mono ?_
      rintro e w' ⟨rfl, rfl⟩
      go_wp2_with fail
      refine (inn_upto H1.out.2.1 y (by rw [← H1.out.2.2.2.2]; exact HX.out.2)).mono ?_
      rintro e w' ⟨rfl, rfl⟩
      go_wp2
      go_ret
      exact ⟨by simp, H1.out.1⟩
end Go.Proofs.Ytjkgbofeogaeoaa
