/- The document's Prefix and Gaps. -/
import Derived.Test.YtjkgbofeogaeoaaRef6
namespace Go.Proofs.Ytjkgbofeogaeoaa
open Go.RowKit Go.Shelf Go.Maps

theorem rget_some (l : List (Int × ByteArray)) (k : Int) (h : (rget l k).isSome = true) : ∃ x ∈ l, x.1 = k := by
  induction l with
  | nil => cases h
  | cons y r ih =>
    by_cases e : y.1 = k
    · exact ⟨y, List.mem_cons_self .., e⟩
    · have h' : (rget r k).isSome = true := by
        have : rget (y :: r) k = rget r k := by show (if y.1 = k then some y.2 else rget r k) = _; rw [if_neg e]
        rw [this] at h; exact h
      obtain ⟨x, hx, e'⟩ := ih h'
      exact ⟨x, List.mem_cons_of_mem _ hx, e'⟩
theorem gapsN_add (f : Int → Option ByteArray) (a : Int) (m : Nat) : ∀ k : Nat, gapsN f a (m + k) = gapsN f a m ++ gapsN f (a + (m : Int)) k
  | 0 => by rw [Nat.add_zero]; show gapsN f a m = gapsN f a m ++ []; rw [List.append_nil]
  | k + 1 => by
    have e : a + ((m + k : Nat) : Int) = a + (m : Int) + (k : Int) := by omega
    cases h : (f (a + (m : Int) + (k : Int))).isSome with
    | true => rw [gapsN_yes f (a + (m : Int)) k h, ← Nat.add_assoc, gapsN_yes f a (m + k) (by rw [e]; exact h), gapsN_add f a m k]
    | false => rw [gapsN_no f (a + (m : Int)) k h, ← Nat.add_assoc, gapsN_no f a (m + k) (by rw [e]; exact h), gapsN_add f a m k, e, List.append_assoc]
theorem gapsN_full (f : Int → Option ByteArray) (a : Int) : ∀ k : Nat, (∀ i : Nat, i < k → (f (a + (i : Int))).isSome = true) → gapsN f a k = []
  | 0, _ => rfl
  | k + 1, h => by rw [gapsN_yes f a k (h k (by omega))]; exact gapsN_full f a k (fun i hi => h i (by omega))
/-- The gaps, seen from the base up to the greatest slot. -/
theorem Lk.gaps {s : Ls} (hk : Lk s) (T : Int) (hT : ∀ k, (s.f k).isSome = true → k ≤ T) (hT2 : T = 0 ∨ (s.f T).isSome = true) : gapsN s.f s.base (T - s.base).toNat = gapsL s := by
  have hb := hk.b0
  have hbu := hk.bu
  have hut := hk.ut
  unfold gapsL
  by_cases h : s.upto < s.top
  · have hl := hk.last h
    have h1 : s.top - 1 ≤ T := hT _ hl
    have h2 : T = s.top - 1 := by
      rcases hT2 with e | e
      · omega
      · have := (hk.dom T e).2; omega
    obtain ⟨m, hm⟩ : ∃ m : Nat, s.upto - s.base = (m : Int) := ⟨(s.upto - s.base).toNat, by omega⟩
    obtain ⟨n, hn⟩ : ∃ n : Nat, s.top - 1 - s.upto = (n : Int) := ⟨(s.top - 1 - s.upto).toNat, by omega⟩
    have e1 : (T - s.base).toNat = m + n := by omega
    have e2 : (s.top - s.upto).toNat = n + 1 := by omega
    have e3 : s.base + (m : Int) = s.upto := by omega
    rw [e1, e2, gapsN_add, gapsN_full s.f s.base m (fun i hi => hk.run _ (by omega) (by omega)), e3, gapsN_yes s.f s.upto n (by rw [show s.upto + (n : Int) = s.top - 1 by omega]; exact hl), List.nil_append]
  · have e2 : (s.top - s.upto).toNat = 0 := by omega
    rw [e2, gapsN_full s.f s.base _ (fun i hi => hk.run _ (by omega) ?_)]
    · rfl
    · rcases hT2 with e | e
      · omega
      · have := (hk.dom T e).2; omega
section
variable {B R c : Nat} {w : World} {v : Value} {l : List (Int × ByteArray)} {s : Ls}
set_option maxRecDepth 20000 in
set_option maxHeartbeats 2000000 in
theorem rprefix85 (h : RefAt B w R v l c s) (hc : c ≤ 1000000) : Calls Try.prog 85 #[.pointer (some ⟨R, 0, none⟩)] w (PrefTo w (prefL s)) := by
  obtain ⟨u, hu⟩ : ∃ u, s.upto = u := ⟨_, rfl⟩
  obtain ⟨b, hb⟩ : ∃ b, s.base = b := ⟨_, rfl⟩
  obtain ⟨i0, hi, hz0, hz1, hz2⟩ := info_parts Try.info9
  have HI := Lib.hid (And.intro hi (And.intro hz0 (And.intro hz1 hz2)))
  have hbu := h.ok.bu
  have hb0 := h.ok.b0
  have hu4 : u ≤ 4096 := by have := h.ok.ut; have := h.ok.t4; omega
  have h83 := rupto83 h hc
  have h84 := rbase84 h
  rw [hu] at h83 hbu
  rw [hb] at h84 hbu hb0
  obtain ⟨L, hL⟩ : ∃ L, prefL s = L := ⟨_, rfl⟩
  have HV := Lib.hid (And.intro h83 (And.intro h84 (And.intro h (And.intro hb (show prefN s.f b (u - b).toNat = L by rw [← hL, ← hu, ← hb]; rfl)))))
  rw [hL]
  clear h h83 h84 hu hb hL hi hz0 hz1 hz2
  go_enter Try.func85, Try.ntmps85
  go_wp2_with (first
    | (go_at_call 83; refine HV.out.1.mono ?_; rintro e w' ⟨rfl, rfl⟩)
    | (go_at_call 84; refine HV.out.2.1.mono ?_; rintro e w' ⟨rfl, rfl⟩))
  go_loopw [3, 5] (fun ov iv wr => ∃ (j : Nat) (x : Int), b + (j : Int) = x ∧ x ≤ u ∧ iv = .int .i64 x ∧ SOwn wr w.heap.size ov (prefN s.f b j) ∧ Below w.heap.size w wr) (fun _ iv _ => (u - intOf iv).toNat)
  case atStart => exact ⟨0, b, by simp, hbu, rfl, World.ownsRow_nil _ _ _ _, Below.refl _ _⟩
  case round =>
    obtain ⟨j, x, hx, hxu, rfl, ho, hbw⟩ := hrel
    have HB := Lib.hid (And.intro hx (And.intro ho hbw))
    have hx4 : 0 ≤ x := by omega
    clear hx ho hbw
    by_cases hlt : x < u
    · obtain ⟨y, hy⟩ : ∃ y, (s.f x).getD ⟨#[]⟩ = y := ⟨_, rfl⟩
      obtain ⟨q, hq⟩ : ∃ q, (s.f x).isSome = q := ⟨_, rfl⟩
      have HG := Lib.hid (And.intro (rget_v (HV.out.2.2.1.below HB.out.2.2) hc x y q hy hq) hy)
      have hj : j ≤ 4096 := by have := HB.out.1; omega
      clear hy hq
      go_wp2_with (first
        | (go_at_call 67; refine HG.out.1.mono ?_; rintro e w' ⟨rfl, rfl⟩)
        | (at_builtin
           go_must (refine wpList_append_own _ rfl _ _ 27 rfl w.heap.size 9 i0 _ 1 16 Try.underlying27 HI.out.1 HI.out.2.1 HI.out.2.2.1 HI.out.2.2.2 rfl (by decide) u3 (prefN s.f b j).length ((prefN s.f b j).map .string) rfl (World.ownsRow.alloc HB.out.2.1 _) ⟨wr.heap.size, 0, none⟩ 1 1 [.string y] rfl rfl (cells_new1 _ _ _) (by simp [Value.oneCell']) (by rw [prefN_len]; unfold maxLen; omega) (by rw [prefN_len]; omega) (by have := HB.out.2.2.size; simp; omega) ?_)
           intro v' w1 hown' hgrow _
           have H1 := Lib.hid (And.intro hown' hgrow)
           clear hown' hgrow))
      go_roundw
      case rel =>
        refine ⟨j + 1, x + 1, by have := HB.out.1; omega, by omega, by first | rfl | go_num, ?_, ?_⟩
        · unfold SOwn
          rw [prefN_succ, HB.out.1, HG.out.2, List.length_append, List.map_append]
          exact H1.out.1
        · exact (HB.out.2.2.alloc HB.out.2.2.size _).grown H1.out.2 (by have := HB.out.2.2.size; simp; omega) (fun z hz => (World.ownsRow.lt HB.out.2.1 z hz).1)
      case measure => simp [intOf]; omega
    · obtain rfl : x = u := by omega
      go_wp2
      go_ret
      have e : (x - b).toNat = j := by have := HB.out.1; omega
      have hL := HV.out.2.2.2.2
      rw [e] at hL
      exact ⟨u3, rfl, by rw [← hL]; exact HB.out.2.1, HB.out.2.2⟩
set_option maxRecDepth 20000 in
set_option maxHeartbeats 4000000 in
theorem rgaps86 (h : RefAt B w R v l c s) (hc : c ≤ 1000000) : Calls Try.prog 86 #[.pointer (some ⟨R, 0, none⟩)] w (GapsTo w (gapsL s)) := by
  obtain ⟨n, hn⟩ : ∃ n, l.length = n := ⟨_, rfl⟩
  obtain ⟨A, C, rfl, hnC, hC⟩ := h.own.shape n hn
  have hC9 : C ≤ 9223372036854775807 := hC
  have hnc : n ≤ 1000000 := by have := h.len; omega
  obtain ⟨b, hb⟩ : ∃ b, s.base = b := ⟨_, rfl⟩
  have hb0 := h.ok.b0
  have hb4 : b ≤ 4096 := by have := h.ok.bu; have := h.ok.ut; have := h.ok.t4; omega
  obtain ⟨c0, c1, c2, zR, -⟩ := h.cells
  rw [hb] at hb0 c1
  obtain ⟨i0, hi, hz0, hz1, hz2⟩ := info_parts Try.info3
  have HI := Lib.hid (And.intro hi (And.intro hz0 (And.intro hz1 hz2)))
  have HV := Lib.hid (And.intro (valid87 h) (And.intro h (And.intro hn hb)))
  clear h hn hb hi hz0 hz1 hz2
  go_enter Try.func86, Try.ntmps86
  go_wp2_with (go_at_call 87; refine HV.out.1.mono ?_; rintro e w' ⟨rfl, rfl⟩)
  go_loopw [3, 4] (fun tv iv wr => ∃ (j : Nat) (t : Int), j ≤ n ∧ iv = .int .i64 (j : Int) ∧ tv = .int .i64 t ∧ (0 ≤ t ∧ t < 4096 ∧ (∀ x ∈ l.take j, x.1 ≤ t) ∧ (t = 0 ∨ ∃ x ∈ l, x.1 = t)) ∧ w = wr) (fun _ iv _ => n - (intOf iv).toNat)
  case atStart => exact ⟨0, 0, Nat.zero_le _, rfl, rfl, ⟨Int.le_refl _, by decide, fun x hx => by simp at hx, .inl rfl⟩, by first | rfl | trivial⟩
  case round =>
    obtain ⟨j, t, hj, rfl, rfl, ht, rfl⟩ := hrel
    have HT := Lib.hid ht
    clear ht
    by_cases hlt : j < n
    · have hjl : j < l.length := by rw [HV.out.2.2.1]; exact hlt
      obtain ⟨x, hx⟩ : ∃ x, l[j]? = some x := ⟨_, List.getElem?_eq_getElem hjl⟩
      obtain ⟨g, rfl, zg, y0, y1⟩ := HV.out.2.1.own.at j x hx
      have hsl := HV.out.2.1.slots x (List.mem_of_getElem? hx)
      have htk : l.take (j + 1) = l.take j ++ [x] := by rw [List.take_add_one, hx]; rfl
      have HX := Lib.hid (And.intro htk (And.intro (List.mem_of_getElem? hx) hsl))
      obtain ⟨xi, xv⟩ := x
      simp only at y0 y1 HX hsl
      clear htk hx hjl hsl
      by_cases hm : t ≤ xi
      · have e1 : max t xi = xi := Int.max_eq_right hm
        go_wp2
        go_roundw
        case rel =>
          obtain ⟨t0, t4, t1, t2⟩ := HT.out
          refine ⟨j + 1, xi, hlt, by go_num, by first | rfl | simp [e1], ⟨by omega, HX.out.2.2.2.2, fun x hx => ?_, .inr ⟨_, HX.out.2.1, rfl⟩⟩, by first | rfl | trivial⟩
          rw [HX.out.1] at hx
          rcases List.mem_append.1 hx with hx | hx
          · have := t1 x hx; omega
          · rw [List.mem_singleton.1 hx]; exact Int.le_refl _
        case measure => simp [intOf]; omega
      · have e1 : max t xi = t := Int.max_eq_left (by omega)
        go_wp2
        go_roundw
        case rel =>
          obtain ⟨t0, t4, t1, t2⟩ := HT.out
          refine ⟨j + 1, t, hlt, by go_num, by first | rfl | simp [e1], ⟨t0, t4, fun x hx => ?_, t2⟩, by first | rfl | trivial⟩
          rw [HX.out.1] at hx
          rcases List.mem_append.1 hx with hx | hx
          · exact t1 x hx
          · rw [List.mem_singleton.1 hx]; show xi ≤ t; omega
        case measure => simp [intOf]; omega
    · obtain rfl : j = n := by omega
      obtain ⟨t0, t4, t1, t2⟩ := HT.out
      rw [List.take_of_length_le (by rw [HV.out.2.2.1]; exact Nat.le_refl _)] at t1
      have hall := HV.out.2.1.ok.gaps t (fun k hk => by
        rw [← HV.out.2.1.abs] at hk
        obtain ⟨x, hx, e⟩ := rget_some l k hk
        rw [← e]; exact t1 x hx) (by
        rcases t2 with e | ⟨x, hx, e⟩
        · exact .inl e
        · right; rw [← HV.out.2.1.abs, ← e]; exact rget_mem l x hx)
      rw [HV.out.2.2.2] at hall
      have HA := Lib.hid hall
      clear t1 t2 hall HT
      go_wp2_with fail
      go_loopw [5, 6] (fun ov iv wr => ∃ (k : Nat) (x : Int), b + (k : Int) = x ∧ (x ≤ t ∨ k = 0) ∧ iv = .int .i64 x ∧ IOwn wr w.heap.size ov (gapsN s.f b k) ∧ Below w.heap.size w wr) (fun _ iv _ => (t - intOf iv).toNat)
      case atStart => exact ⟨0, b, by simp, .inr rfl, rfl, World.ownsRow_nil _ _ _ _, Below.refl _ _⟩
      case round =>
        obtain ⟨k, x, hx, hxu, rfl, ho, hbw⟩ := hrel
        have HB := Lib.hid (And.intro hx (And.intro ho (And.intro hbw hxu)))
        have hx4 : 0 ≤ x ∧ x ≤ 4096 := by omega
        clear hx ho hbw hxu
        by_cases hlt : x < t
        · have hk4 : k ≤ 4096 := by have := HB.out.1; omega
          have hgl := Lib.hid (gapsN_len s.f b k)
          cases hq : (s.f x).isSome with
          | true =>
            have HH := Lib.hid (And.intro (rhas106 (HV.out.2.1.below HB.out.2.2.1) hc x true hq) hq)
            clear hq
            go_wp2_with (go_at_call 106; refine HH.out.1.mono ?_; rintro e w' ⟨rfl, rfl⟩)
            go_roundw
            case rel =>
              refine ⟨k + 1, x + 1, by have := HB.out.1; omega, .inl (by omega), by first | rfl | go_num, ?_, HB.out.2.2.1⟩
              rw [gapsN_yes s.f b k (by rw [HB.out.1]; exact HH.out.2)]; exact HB.out.2.1
            case measure => simp [intOf]; omega
          | false =>
            have HH := Lib.hid (And.intro (rhas106 (HV.out.2.1.below HB.out.2.2.1) hc x false hq) hq)
            clear hq
            go_wp2_with (first
              | (go_at_call 106; refine HH.out.1.mono ?_; rintro e w' ⟨rfl, rfl⟩)
              | (at_builtin
                 go_must (refine wpList_append_own _ rfl _ _ 29 rfl w.heap.size 3 i0 _ 1 8 Try.underlying29 HI.out.1 HI.out.2.1 HI.out.2.2.1 HI.out.2.2.2 rfl (by decide) u5 (gapsN s.f b k).length ((gapsN s.f b k).map iv) rfl (World.ownsRow.alloc HB.out.2.1 _) ⟨wr.heap.size, 0, none⟩ 1 1 [.int .i64 x] rfl rfl (cells_new1 _ _ _) (by simp [Value.oneCell']) (by have := hgl.out; unfold maxLen; omega) (by have := hgl.out; omega) (by have := HB.out.2.2.1.size; simp; omega) ?_)
                 intro v' w1 hown' hgrow _
                 have H1 := Lib.hid (And.intro hown' hgrow)
                 clear hown' hgrow))
            go_roundw
            case rel =>
              refine ⟨k + 1, x + 1, by have := HB.out.1; omega, .inl (by omega), by first | rfl | go_num, ?_, ?_⟩
              · unfold IOwn
                rw [gapsN_no s.f b k (by rw [HB.out.1]; exact HH.out.2), List.length_append, List.map_append, HB.out.1]
                exact H1.out.1
              · exact (HB.out.2.2.1.alloc HB.out.2.2.1.size _).grown H1.out.2 (by have := HB.out.2.2.1.size; simp; omega) (fun z hz => (World.ownsRow.lt HB.out.2.1 z hz).1)
            case measure => simp [intOf]; omega
        · go_wp2
          go_ret
          have e : (t - b).toNat = k := by have := HB.out.1; have := HB.out.2.2.2; omega
          have hL := HA.out
          rw [e] at hL
          exact ⟨u5, rfl, by rw [← hL]; exact HB.out.2.1, HB.out.2.2.1⟩
end
end Go.Proofs.Ytjkgbofeogaeoaa
