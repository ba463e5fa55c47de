/- The walk of skaldlaw19.BagKeeps. -/
import Derived.Test.YtkfkleafonpbgaaKeep1
import Derived.Outline
namespace Go.Proofs.Ytkfkleafonpbgaa
open Go.RowKit

/-- What the rounds of BagKeeps keep: the bag holds what the numbers say. -/
structure KP (w : World) (n lo : Nat) (A : Option Addr) (N C : Nat) (L : List Nat) (W : World) : Prop where
  ms : MS (fun _ => False) w w.heap.size ⟨n, lo, L.map mkMs⟩ (.slice A N C) L W
  len : L.length = N
  le : N ≤ n
  small : ∀ (j x : Nat), L[j]? = some x → x ≤ 65535
section
variable {w w1 w2 : World} {n lo N C : Nat} {A : Option Addr} {L : List Nat}
theorem KP.below (h : KP w n lo A N C L w1) (hb : Below w1.heap.size w1 w2) : KP w n lo A N C L w2 := ⟨h.ms.below hb, h.len, h.le, h.small⟩
theorem KP.get (h : KP w n lo A N C L w1) (i x : Nat) (hx : L[i]? = some x) : Calls Try.prog 12 #[.pointer (some ⟨w.heap.size, 0, none⟩), .int .i64 (i : Int)] w1 (GotTo w1 (mkMs x)) := bg_get h.ms.bg i _ (mk_at L i x hx)
theorem KP.nlen (h : KP w n lo A N C L w1) : Calls Try.prog 19 #[.pointer (some ⟨w.heap.size, 0, none⟩)] w1 fun e w' => e = .returned (.int .i64 (N : Int)) ∧ w1 = w' := by
  have h' := bg_len h.ms.bg
  simp only [List.length_map, h.len] at h'
  exact h'
theorem KP.nlost (h : KP w n lo A N C L w1) (x : Int) (hx : x = (lo : Int)) : Calls Try.prog 17 #[.pointer (some ⟨w.heap.size, 0, none⟩)] w1 fun e w' => e = .returned (.int .i64 x) ∧ w1 = w' := by
  subst hx
  exact bg_lost h.ms.bg
theorem KP.uv (h : KP w n lo A N C L w1) : UV w1 A N C L := by
  have hl := h.len
  subst hl
  exact h.ms.u.uv' h.small
end
/-- The bag beside the numbers, and a message that was got. -/
structure KX (w : World) (s : Bs) (v : Value) (L : List Nat) (x X : Nat) (A : Option Addr) (C : Nat) (W : World) : Prop where
  ms : MS (fun _ => False) w w.heap.size s v L W
  lv : LV W A (x % 4) C (mkMs x).list
  blk : W.heap[X]? = some (.cells #[.int .i64 (mkMs x).kind, .int .i64 (mkMs x).frm, .int .i64 (mkMs x).to, .int .i64 (mkMs x).round, .int .i64 (mkMs x).node, .int .i64 (mkMs x).slot, .int .i64 (mkMs x).num, .string (mkMs x).val, .slice A (x % 4) C] 26)
theorem KX.below {w w1 w2 : World} {s : Bs} {v : Value} {L : List Nat} {x X C : Nat} {A : Option Addr} (h : KX w s v L x X A C w1) (hb : Below w1.heap.size w1 w2) : KX w s v L x X A C w2 := ⟨h.ms.below hb, h.lv.below hb, blk_below' h.blk hb⟩
theorem EOwn.lv4 {w : World} {B x C : Nat} {A : Option Addr} (h : EOwn w B (.slice A (x % 4) C) (mkMs x).list) : LV w A (x % 4) C (mkMs x).list := by
  have hlv := h.lv
  rw [mk_list_len] at hlv
  obtain ⟨_, _, e, h'⟩ := hlv
  cases e; exact h'
theorem KX.of {w w1 w2 : World} {s : Bs} {v : Value} {L : List Nat} {x C B : Nat} {A : Option Addr} (h : MS (fun _ => False) w w.heap.size s v L w1) (ho : EOwn w1 B (.slice A (x % 4) C) (mkMs x).list)
    (h2 : w1.alloc (.cells #[.int .i64 (mkMs x).kind, .int .i64 (mkMs x).frm, .int .i64 (mkMs x).to, .int .i64 (mkMs x).round, .int .i64 (mkMs x).node, .int .i64 (mkMs x).slot, .int .i64 (mkMs x).num, .string (mkMs x).val, .slice A (x % 4) C] 26) = w2) : KX w s v L x w1.heap.size A C w2 := by
  subst h2
  have hb : Below w1.heap.size w1 (w1.alloc (.cells #[.int .i64 (mkMs x).kind, .int .i64 (mkMs x).frm, .int .i64 (mkMs x).to, .int .i64 (mkMs x).round, .int .i64 (mkMs x).node, .int .i64 (mkMs x).slot, .int .i64 (mkMs x).num, .string (mkMs x).val, .slice A (x % 4) C] 26)) := (Below.refl _ _).alloc (Nat.le_refl _) _
  exact ⟨h.below hb, ho.lv4.below hb, blk_new _ _⟩

theorem UOwn.cellAt {w : World} {B N C kk y : Nat} {A : Option Addr} {L : List Nat} (h : UOwn w B (.slice A N C) L) (hn : L.length = N) (hs : ∀ (j x : Nat), L[j]? = some x → x ≤ 65535) (hy : L[kk]? = some y) : ∃ gb go, A = some ⟨gb, go, none⟩ ∧ w.cell? ⟨gb, go + kk, none⟩ = some (.int .u16 (y : Int)) := by
  subst hn
  exact (h.uv' hs).cells kk y hy
set_option maxRecDepth 20000 in
set_option maxHeartbeats 16000000 in
theorem bagKeeps_walk (A : Option Addr) (l : List Mv) (nl Cl sz : Nat) (w : World) (hl : MovesAt w A nl Cl l) (hsz : sz ≤ 255) :
    Calls Try.prog 6 #[.int .u8 (sz : Int), .slice A nl Cl] w fun e w' => e = .returned (.bool true) ∧ Below w.heap.size w w' := by
  have hn9 : nl ≤ 9223372036854775807 := Nat.le_trans hl.le hl.max
  have hC9 : Cl ≤ 9223372036854775807 := hl.max
  have hnC := hl.le
  obtain ⟨m, hmin, hmn, hm100⟩ : ∃ m : Nat, min (nl : Int) 100 = (m : Int) ∧ m ≤ nl ∧ m ≤ 100 := ⟨min nl 100, by omega, by omega, by omega⟩
  have hm0 : (0 : Int) ≤ (m : Int) := by omega
  have hmC : m ≤ Cl := by omega
  obtain ⟨l', hl'⟩ : ∃ l', l.take m = l' := ⟨_, rfl⟩
  have HL := Lib.hid (hl' ▸ hl.take m hmn)
  clear hl hl'
  obtain ⟨n, hn, hn40⟩ : ∃ n : Nat, (sz : Int) % 41 = (n : Int) ∧ n ≤ 40 := ⟨sz % 41, by omega, by omega⟩
  have HN := Lib.hid hn
  clear hn
  go_enter Try.func6, Try.ntmps6
  go_upto_region 2 with (fail)
  rw [HN.out]
  go_wp2_with fail
  refine (new_ok (n : Int) w (by omega) (by omega)).mono ?_
  rintro e w1 ⟨rfl, h1⟩
  have H1 := Lib.hid (show KP w n 0 none 0 0 [] w1 from ⟨⟨h1.less (fun b hb => hb.elim (fun e => by cases e) id), World.ownsRow_nil _ _ _ _⟩, rfl, Nat.zero_le _, fun j x hx => by simp at hx⟩)
  clear h1
  go_wp2_with fail
  go_loopw [8, 9, 44] (fun hv lv i wr => ∃ (k lo : Nat) (A' : Option Addr) (N C : Nat) (L : List Nat), k ≤ m ∧ lo ≤ k ∧ i = .int .i64 (k : Int) ∧ lv = .int .i64 (lo : Int) ∧ hv = .slice A' N C ∧ KP w n lo A' N C L wr) (fun _ _ i _ => m - (intOf i).toNat)
  case atStart => exact ⟨0, 0, none, 0, 0, [], Nat.zero_le _, Nat.le_refl _, rfl, rfl, rfl, H1.out⟩
  case round =>
    obtain ⟨k, lo, A', N, C, L, hk, hlo, rfl, rfl, rfl, hkp⟩ := hrel
    have HK := Lib.hid hkp
    have hN40 : N ≤ 40 := Nat.le_trans hkp.le hn40
    have hC9' : C ≤ 9223372036854775807 := hkp.uv.max
    have hNC := hkp.uv.le
    clear hkp
    by_cases hlt : k < m
    · have hkl : k < l'.length := by rw [HL.out.len]; exact hlt
      obtain ⟨b, off, rfl, hx0, hx1⟩ := (HL.out.below HK.out.ms.bg.out).cells k _ (List.getElem?_eq_getElem hkl)
      obtain ⟨hkd, hxs⟩ := HL.out.small k _ (List.getElem?_eq_getElem hkl)
      generalize l'[k] = mv at *
      obtain ⟨kd, x⟩ := mv
      simp only at hx0 hx1 hkd hxs
      have hx1' : wr.cell? ⟨b, off + k * 2 + 1, none⟩ = some (.int .u16 (x : Int)) := by rw [Nat.add_assoc]; exact hx1
      have HM := Lib.hid (fun w' => made_any x w' hxs)
      obtain ⟨q, hq, hq8⟩ : ∃ q : Nat, (kd : Int) % 8 = (q : Int) ∧ q < 8 := ⟨kd % 8, by omega, by omega⟩
      have HQ := Lib.hid hq
      clear hkl hq
      go_upto_region 11 with (fail)
      rw [HQ.out]
      obtain ⟨W1, hW1⟩ : ∃ W1, wr.alloc (.cells #[.int .u8 (kd : Int), .int .u16 (x : Int)] 65) = W1 := ⟨_, rfl⟩
      obtain ⟨X, hX⟩ : ∃ X, wr.heap.size = X := ⟨_, rfl⟩
      have k1 : W1.heap[X]? = some (.cells #[.int .u8 (kd : Int), .int .u16 (x : Int)] 65) := by rw [← hW1, ← hX]; exact blk_new _ _
      have hkp1 : KP w n lo A' N C L W1 := HK.out.below (by rw [← hW1]; exact (Below.refl _ _).alloc (Nat.le_refl _) _)
      rw [hW1, hX]
      have x1 := cell_blk k1 1
      simp at x1
      have zX := lt_of_blk k1
      have H1' := Lib.hid (And.intro hkp1 k1)
      clear hkp1 k1 hW1 hX hx0 hx1 hx1' HK hkd HQ
      by_cases hA : q < 5 ∨ N = 0
      · by_cases hNn : N = n
        · -- no room
          obtain rfl := hNn
          rcases Nat.lt_or_ge q 5 with hq5 | hq5
          all_goals
            try have hq5' : ¬ q < 5 := by omega
            try have hN0 : ((N : Int) == 0) = true := by have : N = 0 := by omega
                                                         simp [this]
            clear hA
            go_wp2_with fail
            refine (HM.out _).mono ?_
            rintro e w3 ⟨A3, C3, rfl, ho3, hb3⟩
            have H3 := Lib.hid (And.intro (H1'.out.1.below hb3) ho3.lv4)
            clear ho3 hb3 x1 zX
            try clear hN0
            go_wp2_with fail
            refine (bg_put_full H3.out.1.ms.bg _ _ _ _ _ _ _ _ (mkMs x).list A3 (x % 4) C3 H3.out.2 (mk_val x) (mk_short x) (by omega) (by show ((L.map mkMs).length : Int) = N; rw [List.length_map, H3.out.1.len]) (show (0 : Int) ≤ (lo : Int) by omega) (show (lo : Int) ≤ 1000000 by omega)).mono ?_
            rintro e w4 ⟨rfl, h4, hu4⟩
            have H4 := Lib.hid (show KP w N (lo + 1) A' N C L w4 from ⟨H3.out.1.ms.goes h4 hu4, H3.out.1.len, H3.out.1.le, H3.out.1.small⟩)
            clear h4 hu4
            go_wp2_with (first
              | (go_at_call 19; refine H4.out.nlen.mono ?_; rintro e w' ⟨rfl, rfl⟩)
              | (go_at_call 17; refine (H4.out.nlost ((lo : Int) + 1) rfl).mono ?_; rintro e w' ⟨rfl, rfl⟩))
            go_roundw
            case rel => exact ⟨k + 1, lo + 1, A', N, C, L, hlt, by omega, by go_num, by first | rfl | go_num, rfl, H4.out⟩
            case measure => simp [intOf]; omega
        · -- it is put
          have hNn' : ((N : Int) == (n : Int)) = false := by simp; omega
          have hNlt : N < n := by have := H1'.out.1.le; omega
          obtain ⟨N1, hN1⟩ : ∃ N1, N + 1 = N1 := ⟨_, rfl⟩
          have hLN : (L ++ [x]).length = N1 := by rw [List.length_append, H1'.out.1.len]; exact hN1
          have HN1 := Lib.hid (And.intro hN1 (And.intro hLN hNlt))
          have hN1' : N1 ≤ 40 := by omega
          clear hN1 hLN hNlt
          rcases Nat.lt_or_ge q 5 with hq5 | hq5
          all_goals
            try have hq5' : ¬ q < 5 := by omega
            try have hN0 : ((N : Int) == 0) = true := by have : N = 0 := by omega
                                                         simp [this]
            clear hA hNn
            go_wp2_with (at_builtin; refine wpList_append_one rfl _ _ rfl w.heap.size (.slice A' N C) L rfl (H1'.out.1.ms.u.below ((Below.refl _ _).alloc (Nat.le_refl _) _)) W1.heap.size x rfl (blk_new _ _) (by rw [H1'.out.1.len]; omega) (by have := H1'.out.1.ms.bg.out.size; simp; omega) ?_; intro v2 w2 hu2 hg2 hn2; obtain ⟨A2, C2, rfl⟩ := hu2.shape N1 HN1.out.2.1; have k2 := grow_blk hg2 (blk_alloc H1'.out.2 _) (fun e => rowNot H1'.out.1.ms.u H1'.out.2 (by decide) e.symm); have x2 := cell_blk k2 1; simp at x2; have z2 := lt_of_blk k2; have H2 := Lib.hid (And.intro hu2 (And.intro hg2 hn2)); clear hu2 hg2 hn2 k2 x1 zX)
            try clear hN0
            have hms2 : MS (fun _ => False) w w.heap.size ⟨n, lo, L.map mkMs⟩ (.slice A2 N1 C2) (L ++ [x]) w2 := by
              obtain ⟨hu2, hg2, hn2⟩ := H2.out
              refine (H1'.out.1.ms.below ((Below.refl _ _).alloc (Nat.le_refl _) (.cells #[.int .u16 (x : Int)] 51))).turn hu2 ((Upd.refl _ _).grown hg2 (fun b e => .inl e)) ?_
              rcases hn2 with e | e
              · exact .inl e
              · exact .inr (fun b hb => by rw [hb] at e; have := Option.some.inj e; omega)
            have H2b := Lib.hid hms2
            clear hms2 H2
            go_wp2_with fail
            refine (HM.out _).mono ?_
            rintro e w3 ⟨A3, C3, rfl, ho3, hb3⟩
            have H3 := Lib.hid (And.intro (H2b.out.below hb3) ho3.lv4)
            clear ho3 hb3 x2 z2
            go_wp2_with fail
            refine (bg_put_ok H3.out.1.bg _ _ _ _ _ _ _ _ (mkMs x).list A3 (x % 4) C3 H3.out.2 (mk_val x) (mk_short x) (by omega) (by show ((L.map mkMs).length : Int) ≠ n; rw [List.length_map, H1'.out.1.len]; have := HN1.out.2.2; omega) (by show (L.map mkMs).length < 512; rw [List.length_map, H1'.out.1.len]; omega)).mono ?_
            rintro e w4 ⟨rfl, h4, hu4⟩
            have H4 := Lib.hid (show KP w n lo A2 N1 C2 (L ++ [x]) w4 from ⟨by rw [List.map_append]; exact H3.out.1.goes h4 hu4, HN1.out.2.1, by have := HN1.out.1; have := HN1.out.2.2; omega, fun j z hz => by
              rcases Nat.lt_or_ge j L.length with e | e
              · rw [List.getElem?_append_left e] at hz; exact H1'.out.1.small j z hz
              · rw [List.getElem?_append_right e] at hz
                have hm := List.mem_of_getElem? hz
                simp at hm
                subst hm
                exact hxs⟩)
            clear h4 hu4
            go_wp2_with (first
              | (go_at_call 19; refine H4.out.nlen.mono ?_; rintro e w' ⟨rfl, rfl⟩)
              | (go_at_call 17; refine (H4.out.nlost (lo : Int) rfl).mono ?_; rintro e w' ⟨rfl, rfl⟩))
            go_roundw
            case rel => exact ⟨k + 1, lo, A2, N1, C2, L ++ [x], hlt, by omega, by go_num, rfl, rfl, H4.out⟩
            case measure => simp [intOf]; omega
      · have hq5 : ¬ q < 5 := fun e => hA (.inl e)
        have hN1 : 0 < N := by omega
        have hN0 : ((N : Int) == 0) = false := by simp; omega
        have hN0' : ¬ (N : Int) = 0 := by omega
        clear hA
        obtain ⟨kk, hk1, hk2, hkk⟩ : ∃ kk : Nat, (x : Int) % (N : Int) = (kk : Int) ∧ (x : Int).tmod (N : Int) = (kk : Int) ∧ kk < N :=
          ⟨x % N, rfl, by rw [Int.tmod_eq_emod_of_nonneg (by omega)]; rfl, Nat.mod_lt _ hN1⟩
        have hw1 : IntKind.i64.wrap (x : Int) = (x : Int) := IntWalk.i64_in _ (by omega)
        have hw2 : IntKind.i64.wrap (kk : Int) = (kk : Int) := IntWalk.i64_in _ (by omega)
        obtain ⟨y, hy⟩ : ∃ y, L[kk]? = some y := ⟨_, List.getElem?_eq_getElem (by rw [H1'.out.1.len]; exact hkk)⟩
        have HY := Lib.hid (And.intro hy (H1'.out.1.small kk y hy))
        have HMy := Lib.hid (fun w' => made_any y w' HY.out.2)
        have hkki : (kk : Int) < (N : Int) := by omega
        clear hy HM
        have hcell0 : ∀ W, UOwn W w.heap.size (.slice A' N C) L → ∃ gb go, A' = some ⟨gb, go, none⟩ ∧ W.cell? ⟨gb, go + kk, none⟩ = some (.int .u16 (y : Int)) := fun W h => h.cellAt H1'.out.1.len H1'.out.1.small HY.out.1
        obtain ⟨gb, go, rfl, c0⟩ := hcell0 W1 H1'.out.1.ms.u
        have HX := Lib.hid (fun (W : World) (h : UOwn W w.heap.size (.slice (some ⟨gb, go, none⟩) N C) L) => (show W.cell? ⟨gb, go + kk, none⟩ = some (.int .u16 (y : Int)) by
          obtain ⟨gb', go', e, h2⟩ := hcell0 W h
          cases e; exact h2))
        clear hcell0
        by_cases hq7 : q < 7
        · -- it is taken
          obtain ⟨N2, hN2⟩ : ∃ N2, N2 + 1 = N := ⟨N - 1, by omega⟩
          have hlen : (L.take kk ++ L.drop (kk + 1)).length = N2 := by rw [List.length_append, List.length_take, List.length_drop, H1'.out.1.len]; omega
          have HN2 := Lib.hid (And.intro hN2 hlen)
          clear hN2 hlen
          go_wp2_with fail
          refine (bg_take H1'.out.1.ms.bg kk (mkMs y) (mk_at L kk y HY.out.1)).mono ?_
          rintro e w20 ⟨A6, C6, rfl, ho6, hbg6, hU6⟩
          rw [mk_list_len] at ho6
          have hms : MS (fun _ => False) w w.heap.size ⟨n, lo, (L.take kk ++ L.drop (kk + 1)).map mkMs⟩ (.slice (some ⟨gb, go, none⟩) N C) L w20 :=
            ⟨by rw [List.map_append, List.map_take, List.map_drop]; exact hbg6.less (fun b hb => .inl hb), H1'.out.1.ms.u.upd hU6 (fun b hb f => f.2 (.inl hb))⟩
          have H20 := Lib.hid (And.intro hms ho6)
          clear ho6 hbg6 hU6 hms hk1 hk2 hw1 hw2 x1 zX c0 hN0 hN0'
          go_upto_region 22 with (fail)
          rw [mk_list_len]
          obtain ⟨W22, hW22⟩ : ∃ W22, w20.alloc (.cells #[.int .i64 (mkMs y).kind, .int .i64 (mkMs y).frm, .int .i64 (mkMs y).to, .int .i64 (mkMs y).round, .int .i64 (mkMs y).node, .int .i64 (mkMs y).slot, .int .i64 (mkMs y).num, .string (mkMs y).val, .slice A6 (y % 4) C6] 26) = W22 := ⟨_, rfl⟩
          have hkx := KX.of (w := w) H20.out.1 H20.out.2 hW22
          obtain ⟨X6, hX6⟩ : ∃ X6, w20.heap.size = X6 := ⟨_, rfl⟩
          rw [hX6] at hkx
          rw [hW22, hX6]
          have H22 := Lib.hid hkx
          have c0 := HX.out _ hkx.ms.u
          clear hkx hW22 hX6 H20
          obtain ⟨a0, a1, a2, a3, a4, a5, a6, a7, a8, af⟩ := cell9 H22.out.blk
          go_region_held3 (fun w' => w'.cell? ⟨X6, 0, none⟩ = some (.int .i64 (mkMs y).kind) ∧ w'.cell? ⟨X6, 1, none⟩ = some (.int .i64 (mkMs y).frm) ∧ w'.cell? ⟨X6, 2, none⟩ = some (.int .i64 (mkMs y).to) ∧ w'.cell? ⟨X6, 3, none⟩ = some (.int .i64 (mkMs y).round) ∧ w'.cell? ⟨X6, 4, none⟩ = some (.int .i64 (mkMs y).node) ∧ w'.cell? ⟨X6, 5, none⟩ = some (.int .i64 (mkMs y).slot) ∧ w'.cell? ⟨X6, 6, none⟩ = some (.int .i64 (mkMs y).num) ∧ w'.cell? ⟨X6, 7, none⟩ = some (.string (mkMs y).val) ∧ w'.cell? ⟨X6, 8, none⟩ = some (.slice A6 (y % 4) C6) ∧ w'.cell? ⟨gb, go + kk, none⟩ = some (.int .u16 (y : Int))) (first | go_keep | (refine ⟨?_, ?_, ?_, ?_, ?_, ?_, ?_, ?_, ?_, ?_⟩ <;> assumption)) ((first
            | (go_at_call 15
               refine (equal_yes _ _ _ _ _ _ _ _ A6 A7 (y % 4) C6 C7 (mkMs y).list _ H23.out.1.lv H23.out.2).mono ?_
               rintro e w24 ⟨rfl, hb24⟩
               have H24 := Lib.hid (H23.out.1.below hb24)
               clear hb24 a0 a1 a2 a3 a4 a5 a6 a7 a8 af c0
               obtain ⟨a0, a1, a2, a3, a4, a5, a6, a7, a8, af⟩ := cell9 H24.out.blk
               have c0 := HX.out _ H24.out.ms.u)
            | (go_at_call 22
               refine (HMy.out _).mono ?_
               rintro e w23 ⟨A7, C7, rfl, ho7, hb7⟩
               have hbd : Below W22.heap.size W22 w23 := (Below.refl _ _).drew.trans hb7
               have H23 := Lib.hid (And.intro (H22.out.below hbd) ho7.lv4)
               clear hb7 hbd ho7 a0 a1 a2 a3 a4 a5 a6 a7 a8 af c0
               obtain ⟨a0, a1, a2, a3, a4, a5, a6, a7, a8, af⟩ := cell9 H23.out.1.blk
               have c0 := HX.out _ H23.out.1.ms.u)))
          go_wp2_with fail
          refine (uv_delete H24.out.ms.u H1'.out.1.len hkk).mono ?_
          rintro e w25 ⟨A8, C8, he, hu8, ho8, hU8⟩
          rw [HN2.out.2] at he hu8 ho8
          subst he
          have H4 := Lib.hid (show KP w n lo A8 N2 C8 (L.take kk ++ L.drop (kk + 1)) w25 from ⟨H24.out.ms.turn hu8 hU8 (.inl ho8), HN2.out.2, by have := HN2.out.1; have := H1'.out.1.le; omega, fun j z hz => by
            have hm := List.mem_of_getElem? hz
            rcases List.mem_append.1 hm with hm | hm
            · obtain ⟨j', hj'⟩ := List.getElem?_of_mem (List.mem_of_mem_take hm); exact H1'.out.1.small j' z hj'
            · obtain ⟨j', hj'⟩ := List.getElem?_of_mem (List.mem_of_mem_drop hm); exact H1'.out.1.small j' z hj'⟩)
          clear hu8 ho8 hU8 a0 a1 a2 a3 a4 a5 a6 a7 a8 af c0
          have hN2' : N2 ≤ 40 := by have := HN2.out.1; omega
          go_wp2_with (first
            | (go_at_call 19; refine H4.out.nlen.mono ?_; rintro e w' ⟨rfl, rfl⟩)
            | (go_at_call 17; refine (H4.out.nlost (lo : Int) rfl).mono ?_; rintro e w' ⟨rfl, rfl⟩))
          go_roundw
          case rel => exact ⟨k + 1, lo, A8, N2, C8, _, hlt, by omega, by go_num, rfl, rfl, H4.out⟩
          case measure => simp [intOf]; omega
        · by_cases hNn : N = n
          · obtain rfl := hNn
            go_wp2_with fail
            refine (bg_double_full H1'.out.1.ms.bg kk (mkMs y) (mk_at L kk y HY.out.1) (by show ((L.map mkMs).length : Int) = N; rw [List.length_map, H1'.out.1.len])).mono ?_
            rintro e w4 ⟨rfl, h4, hu4⟩
            have H4 := Lib.hid (show KP w N lo (some ⟨gb, go, none⟩) N C L w4 from ⟨H1'.out.1.ms.goes h4 hu4, H1'.out.1.len, H1'.out.1.le, H1'.out.1.small⟩)
            clear h4 hu4 hk1 hk2 hw1 hw2 x1 zX c0 hN0 hN0'
            go_wp2_with (first
              | (go_at_call 19; refine H4.out.nlen.mono ?_; rintro e w' ⟨rfl, rfl⟩)
              | (go_at_call 17; refine (H4.out.nlost (lo : Int) rfl).mono ?_; rintro e w' ⟨rfl, rfl⟩))
            go_roundw
            case rel => exact ⟨k + 1, lo, _, N, C, L, hlt, by omega, by go_num, rfl, rfl, H4.out⟩
            case measure => simp [intOf]; omega
          · have hNn' : ((N : Int) == (n : Int)) = false := by simp; omega
            have hNlt : N < n := by have := H1'.out.1.le; omega
            obtain ⟨N1, hN1⟩ : ∃ N1, N + 1 = N1 := ⟨_, rfl⟩
            have hLN : (L ++ [y]).length = N1 := by rw [List.length_append, H1'.out.1.len]; exact hN1
            have HN1 := Lib.hid (And.intro hN1 (And.intro hLN hNlt))
            have hN1' : N1 ≤ 40 := by omega
            clear hN1 hLN hNlt hNn
            go_wp2_with (at_builtin; refine wpList_append_one rfl _ _ rfl w.heap.size (.slice (some ⟨gb, go, none⟩) N C) L rfl (H1'.out.1.ms.u.below ((Below.refl _ _).alloc (Nat.le_refl _) _)) W1.heap.size y rfl (blk_new _ _) (by rw [H1'.out.1.len]; omega) (by have := H1'.out.1.ms.bg.out.size; simp; omega) ?_; intro v2 w2 hu2 hg2 hn2; obtain ⟨A2, C2, rfl⟩ := hu2.shape N1 HN1.out.2.1; have H2 := Lib.hid (And.intro hu2 (And.intro hg2 hn2)); clear hu2 hg2 hn2 x1 zX c0 hk1 hk2 hw1 hw2 hN0 hN0')
            have hms2 : MS (fun _ => False) w w.heap.size ⟨n, lo, L.map mkMs⟩ (.slice A2 N1 C2) (L ++ [y]) w2 := by
              obtain ⟨hu2, hg2, hn2⟩ := H2.out
              refine (H1'.out.1.ms.below ((Below.refl _ _).alloc (Nat.le_refl _) (.cells #[.int .u16 (y : Int)] 51))).turn hu2 ((Upd.refl _ _).grown hg2 (fun b e => .inl e)) ?_
              rcases hn2 with e | e
              · exact .inl e
              · exact .inr (fun b hb => by rw [hb] at e; have := Option.some.inj e; omega)
            have H2b := Lib.hid hms2
            clear hms2 H2
            go_wp2_with fail
            refine (bg_double_ok H2b.out.bg kk (mkMs y) (mk_at L kk y HY.out.1) (by show ((L.map mkMs).length : Int) ≠ n; rw [List.length_map, H1'.out.1.len]; have := HN1.out.2.2; omega) (by show (L.map mkMs).length < 512; rw [List.length_map, H1'.out.1.len]; omega)).mono ?_
            rintro e w4 ⟨rfl, h4, hu4⟩
            have H4 := Lib.hid (show KP w n lo A2 N1 C2 (L ++ [y]) w4 from ⟨by rw [List.map_append]; exact H2b.out.goes h4 hu4, HN1.out.2.1, by have := HN1.out.1; have := HN1.out.2.2; omega, fun j z hz => by
              rcases Nat.lt_or_ge j L.length with e | e
              · rw [List.getElem?_append_left e] at hz; exact H1'.out.1.small j z hz
              · rw [List.getElem?_append_right e] at hz
                have hm := List.mem_of_getElem? hz
                simp at hm
                subst hm
                exact HY.out.2⟩)
            clear h4 hu4
            go_wp2_with (first
              | (go_at_call 19; refine H4.out.nlen.mono ?_; rintro e w' ⟨rfl, rfl⟩)
              | (go_at_call 17; refine (H4.out.nlost (lo : Int) rfl).mono ?_; rintro e w' ⟨rfl, rfl⟩))
            go_roundw
            case rel => exact ⟨k + 1, lo, A2, N1, C2, L ++ [y], hlt, by omega, by go_num, rfl, rfl, H4.out⟩
            case measure => simp [intOf]; omega
    · -- behind the moves
      obtain ⟨W0, rfl⟩ : ∃ W0 : World, W0 = wr := ⟨_, rfl⟩
      go_wp2_with fail
      go_loopw [137] (fun i W => ∃ j : Nat, j ≤ N ∧ i = .int .i64 (j : Int) ∧ KP w n lo A' N C L W) (fun i _ => N - (intOf i).toNat)
      case atStart => exact ⟨0, Nat.zero_le _, rfl, HK.out⟩
      case round =>
        obtain ⟨j, hj, rfl, hkp⟩ := hrel
        have HB := Lib.hid hkp
        clear hkp
        by_cases hjt : j < N
        · have hjl : j < L.length := by rw [HB.out.len]; exact hjt
          obtain ⟨y, hy⟩ : ∃ y, L[j]? = some y := ⟨_, List.getElem?_eq_getElem hjl⟩
          obtain ⟨gb, go, rfl, c0⟩ := HB.out.ms.u.cellAt HB.out.len HB.out.small hy
          have HY := Lib.hid (And.intro hy (HB.out.small j y hy))
          have HMy := Lib.hid (fun w' => made_any y w' HY.out.2)
          have hji : (j : Int) < (N : Int) := by omega
          clear hy hjl
          go_wp2_with fail
          refine (HB.out.get j y HY.out.1).mono ?_
          rintro e w20 ⟨A6, C6, rfl, ho6, hb6⟩
          rw [mk_list_len] at ho6
          have H20 := Lib.hid (And.intro (HB.out.below hb6) ho6)
          clear ho6 hb6 c0
          go_upto_region 38 with (fail)
          rw [mk_list_len]
          obtain ⟨W22, hW22⟩ : ∃ W22, w20.alloc (.cells #[.int .i64 (mkMs y).kind, .int .i64 (mkMs y).frm, .int .i64 (mkMs y).to, .int .i64 (mkMs y).round, .int .i64 (mkMs y).node, .int .i64 (mkMs y).slot, .int .i64 (mkMs y).num, .string (mkMs y).val, .slice A6 (y % 4) C6] 26) = W22 := ⟨_, rfl⟩
          have hkx := KX.of (w := w) H20.out.1.ms H20.out.2 hW22
          obtain ⟨X6, hX6⟩ : ∃ X6, w20.heap.size = X6 := ⟨_, rfl⟩
          rw [hX6] at hkx
          rw [hW22, hX6]
          have H22 := Lib.hid hkx
          clear hkx hW22 hX6 H20
          obtain ⟨a0, a1, a2, a3, a4, a5, a6, a7, a8, af⟩ := cell9 H22.out.blk
          go_region_held3 (fun w' => w'.cell? ⟨X6, 0, none⟩ = some (.int .i64 (mkMs y).kind) ∧ w'.cell? ⟨X6, 1, none⟩ = some (.int .i64 (mkMs y).frm) ∧ w'.cell? ⟨X6, 2, none⟩ = some (.int .i64 (mkMs y).to) ∧ w'.cell? ⟨X6, 3, none⟩ = some (.int .i64 (mkMs y).round) ∧ w'.cell? ⟨X6, 4, none⟩ = some (.int .i64 (mkMs y).node) ∧ w'.cell? ⟨X6, 5, none⟩ = some (.int .i64 (mkMs y).slot) ∧ w'.cell? ⟨X6, 6, none⟩ = some (.int .i64 (mkMs y).num) ∧ w'.cell? ⟨X6, 7, none⟩ = some (.string (mkMs y).val) ∧ w'.cell? ⟨X6, 8, none⟩ = some (.slice A6 (y % 4) C6)) (first | go_keep | (refine ⟨?_, ?_, ?_, ?_, ?_, ?_, ?_, ?_, ?_⟩ <;> assumption)) ((first
            | (go_at_call 15
               refine (equal_yes _ _ _ _ _ _ _ _ A6 A7 (y % 4) C6 C7 (mkMs y).list _ H23.out.1.lv H23.out.2).mono ?_
               rintro e w24 ⟨rfl, hb24⟩
               have H24 := Lib.hid (H23.out.1.below hb24)
               clear hb24 a0 a1 a2 a3 a4 a5 a6 a7 a8 af
               obtain ⟨a0, a1, a2, a3, a4, a5, a6, a7, a8, af⟩ := cell9 H24.out.blk)
            | (go_at_call 22
               refine (HMy.out _).mono ?_
               rintro e w23 ⟨A7, C7, rfl, ho7, hb7⟩
               have hbd : Below W22.heap.size W22 w23 := (Below.refl _ _).drew.trans hb7
               have H23 := Lib.hid (And.intro (H22.out.below hbd) ho7.lv4)
               clear hb7 hbd ho7 a0 a1 a2 a3 a4 a5 a6 a7 a8 af
               obtain ⟨a0, a1, a2, a3, a4, a5, a6, a7, a8, af⟩ := cell9 H23.out.1.blk)))
          all_goals
            go_wp2
            go_roundw
            case rel => exact ⟨j + 1, hjt, by go_num, ⟨H24.out.ms, HB.out.len, HB.out.le, HB.out.small⟩⟩
            case measure => simp [intOf]; omega
        · obtain rfl : j = N := by omega
          have H0 := Lib.hid (And.intro (show MS (fun _ => False) w w.heap.size ⟨n, lo, (L.drop 0).map mkMs⟩ (.slice A' j C) L wr from HB.out.ms) (And.intro HB.out.len HB.out.small))
          clear HB HK hj
          obtain ⟨W1, rfl⟩ : ∃ W1 : World, W1 = wr := ⟨_, rfl⟩
          go_wp2_with fail
          go_loopw [160] (fun i W => ∃ r : Nat, r ≤ j ∧ i = .int .i64 (r : Int) ∧ MS (fun _ => False) w w.heap.size ⟨n, lo, (L.drop r).map mkMs⟩ (.slice A' j C) L W) (fun i _ => j - (intOf i).toNat)
          case atStart => exact ⟨0, Nat.zero_le _, rfl, H0.out.1⟩
          case round =>
            obtain ⟨r, hr, rfl, hms⟩ := hrel
            have HB := Lib.hid hms
            clear hms
            by_cases hrt : r < j
            · have hrl : r < L.length := by rw [H0.out.2.1]; exact hrt
              obtain ⟨y, hy⟩ : ∃ y, L[r]? = some y := ⟨_, List.getElem?_eq_getElem hrl⟩
              obtain ⟨gb, go, rfl, c0⟩ := HB.out.u.cellAt H0.out.2.1 H0.out.2.2 hy
              have hd : L.drop r = y :: L.drop (r + 1) := by
                rw [List.drop_eq_getElem_cons hrl]
                rw [List.getElem?_eq_getElem hrl] at hy
                rw [Option.some.inj hy]
              have HY := Lib.hid (And.intro hd (H0.out.2.2 r y hy))
              have HMy := Lib.hid (fun w' => made_any y w' HY.out.2)
              have hri : (r : Int) < (j : Int) := by omega
              have hT := bg_take HB.out.bg 0 (mkMs y) (by show ((L.drop r).map mkMs)[0]? = _; rw [hd]; rfl)
              have HT := Lib.hid (show Calls Try.prog 13 #[.pointer (some ⟨w.heap.size, 0, none⟩), .int .i64 0] wr (TakeG (fun b => (Value.slice (some ⟨gb, go, none⟩) j C).ownBlock = some b ∨ False) w wr w.heap.size (mkMs y) ⟨n, lo, (L.drop (r + 1)).map mkMs⟩) by
                have e : (⟨(n : Int), (lo : Int), (L.drop (r + 1)).map mkMs⟩ : Bs) = { (⟨(n : Int), (lo : Int), (L.drop r).map mkMs⟩ : Bs) with ms := ((L.drop r).map mkMs).take 0 ++ ((L.drop r).map mkMs).drop (0 + 1) } := by rw [hd]; rfl
                rw [e]; exact hT)
              clear hy hrl hd hT
              go_wp2_with fail
              refine HT.out.mono ?_
              rintro e w20 ⟨A6, C6, rfl, ho6, hbg6, hU6⟩
              rw [mk_list_len] at ho6
              have H20 := Lib.hid (And.intro (show MS (fun _ => False) w w.heap.size ⟨n, lo, (L.drop (r + 1)).map mkMs⟩ (.slice (some ⟨gb, go, none⟩) j C) L w20 from ⟨hbg6.less (fun b hb => .inl hb), HB.out.u.upd hU6 (fun b hb f => f.2 (.inl hb))⟩) ho6)
              clear ho6 hbg6 hU6 c0 HT
              go_upto_region 45 with (fail)
              rw [mk_list_len]
              obtain ⟨W22, hW22⟩ : ∃ W22, w20.alloc (.cells #[.int .i64 (mkMs y).kind, .int .i64 (mkMs y).frm, .int .i64 (mkMs y).to, .int .i64 (mkMs y).round, .int .i64 (mkMs y).node, .int .i64 (mkMs y).slot, .int .i64 (mkMs y).num, .string (mkMs y).val, .slice A6 (y % 4) C6] 26) = W22 := ⟨_, rfl⟩
              have hkx := KX.of (w := w) H20.out.1 H20.out.2 hW22
              obtain ⟨X6, hX6⟩ : ∃ X6, w20.heap.size = X6 := ⟨_, rfl⟩
              rw [hX6] at hkx
              rw [hW22, hX6]
              have H22 := Lib.hid hkx
              clear hkx hW22 hX6 H20
              obtain ⟨a0, a1, a2, a3, a4, a5, a6, a7, a8, af⟩ := cell9 H22.out.blk
              go_region_held3 (fun w' => w'.cell? ⟨X6, 0, none⟩ = some (.int .i64 (mkMs y).kind) ∧ w'.cell? ⟨X6, 1, none⟩ = some (.int .i64 (mkMs y).frm) ∧ w'.cell? ⟨X6, 2, none⟩ = some (.int .i64 (mkMs y).to) ∧ w'.cell? ⟨X6, 3, none⟩ = some (.int .i64 (mkMs y).round) ∧ w'.cell? ⟨X6, 4, none⟩ = some (.int .i64 (mkMs y).node) ∧ w'.cell? ⟨X6, 5, none⟩ = some (.int .i64 (mkMs y).slot) ∧ w'.cell? ⟨X6, 6, none⟩ = some (.int .i64 (mkMs y).num) ∧ w'.cell? ⟨X6, 7, none⟩ = some (.string (mkMs y).val) ∧ w'.cell? ⟨X6, 8, none⟩ = some (.slice A6 (y % 4) C6)) (first | go_keep | (refine ⟨?_, ?_, ?_, ?_, ?_, ?_, ?_, ?_, ?_⟩ <;> assumption)) ((first
                | (go_at_call 15
                   refine (equal_yes _ _ _ _ _ _ _ _ A6 A7 (y % 4) C6 C7 (mkMs y).list _ H23.out.1.lv H23.out.2).mono ?_
                   rintro e w24 ⟨rfl, hb24⟩
                   have H24 := Lib.hid (H23.out.1.below hb24)
                   clear hb24 a0 a1 a2 a3 a4 a5 a6 a7 a8 af
                   obtain ⟨a0, a1, a2, a3, a4, a5, a6, a7, a8, af⟩ := cell9 H24.out.blk)
                | (go_at_call 22
                   refine (HMy.out _).mono ?_
                   rintro e w23 ⟨A7, C7, rfl, ho7, hb7⟩
                   have hbd : Below W22.heap.size W22 w23 := (Below.refl _ _).drew.trans hb7
                   have H23 := Lib.hid (And.intro (H22.out.below hbd) ho7.lv4)
                   clear hb7 hbd ho7 a0 a1 a2 a3 a4 a5 a6 a7 a8 af
                   obtain ⟨a0, a1, a2, a3, a4, a5, a6, a7, a8, af⟩ := cell9 H23.out.1.blk)))
              all_goals
                go_wp2
                go_roundw
                case rel => exact ⟨r + 1, hrt, by go_num, H24.out.ms⟩
                case measure => simp [intOf]; omega
            · obtain rfl : r = j := by omega
              have hbg := HB.out.bg
              rw [List.drop_of_length_le (by rw [H0.out.2.1]; exact Nat.le_refl _)] at hbg
              have HE := Lib.hid (show BG (fun b => (Value.slice A' r C).ownBlock = some b ∨ False) w w.heap.size ⟨n, lo, []⟩ wr from hbg)
              clear hbg HB
              go_wp2_with fail
              refine (bg_take_no HE.out 0 (.inr (Int.le_refl (0 : Int)))).mono ?_
              rintro e w30 ⟨rfl, hb30⟩
              have H30 := Lib.hid (HE.out.below hb30)
              clear hb30
              go_upto_region 49 with (fail)
              obtain ⟨W31, hW31⟩ : ∃ W31, w30.alloc (.cells #[.int .i64 0, .int .i64 0, .int .i64 0, .int .i64 0, .int .i64 0, .int .i64 0, .int .i64 0, .string ⟨#[]⟩, .slice none 0 0] 26) = W31 := ⟨_, rfl⟩
              rw [hW31]
              have H31 := Lib.hid (H30.out.below (w' := W31) (by rw [← hW31]; exact (Below.refl _ _).alloc (Nat.le_refl _) _))
              clear hW31 H30
              have HL0 := Lib.hid (show Calls Try.prog 19 #[.pointer (some ⟨w.heap.size, 0, none⟩)] W31 fun e w' => e = .returned (.int .i64 0) ∧ W31 = w' from bg_len H31.out)
              have HL1 := Lib.hid (show Calls Try.prog 17 #[.pointer (some ⟨w.heap.size, 0, none⟩)] W31 fun e w' => e = .returned (.int .i64 (lo : Int)) ∧ W31 = w' from bg_lost H31.out)
              go_wp2_with (first
                | (go_at_call 19; refine HL0.out.mono ?_; rintro e w' ⟨rfl, rfl⟩)
                | (go_at_call 17; refine HL1.out.mono ?_; rintro e w' ⟨rfl, rfl⟩)
                | (go_at_call 11; refine (works_any W31).mono ?_; rintro e w32 ⟨rfl, hb32⟩; have H32 := Lib.hid (belowStep H31.out.out hb32); clear hb32))
              go_ret
              exact ⟨rfl, H32.out⟩
end Go.Proofs.Ytkfkleafonpbgaa
