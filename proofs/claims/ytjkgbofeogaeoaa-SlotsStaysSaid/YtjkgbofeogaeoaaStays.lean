/- The walk of skaldlaw15.SlotsStays. -/
import Derived.Test.YtjkgbofeogaeoaaStay3
import Derived.Deep.CutBlock
import Derived.Deep.Cut
import Derived.Deep.CutRange
namespace Go.Proofs.Ytjkgbofeogaeoaa
open Go.RowKit

set_option maxRecDepth 20000 in
set_option maxHeartbeats 2000000 in
theorem slotsStays_walk (A : Option Addr) (l : List Mv) (nl C : Nat) (m : Mv) (w : World) (hl : MovesAt w A nl C l) (hm3 : m.val ≤ 255) : Calls Try.prog 9 #[.slice A nl C, .agg #[.int .u8 (m.kind : Int), .int .u8 (m.slot : Int), .int .u8 (m.val : Int)]] w fun e w' => e = .returned (.bool true) ∧ Below w.heap.size w w' := by
  have hn9 : nl ≤ 9223372036854775807 := Nat.le_trans hl.le hl.max
  have hC9 : C ≤ 9223372036854775807 := hl.max
  have hnC := hl.le
  obtain ⟨n, hmin, hmn, hm60⟩ : ∃ n : Nat, min (nl : Int) 60 = (n : Int) ∧ n ≤ nl ∧ n ≤ 60 := ⟨min nl 60, by omega, by omega, by omega⟩
  have hm0 : (0 : Int) ≤ (n : Int) := by omega
  have hmC : n ≤ C := by omega
  obtain ⟨l', hl'⟩ : ∃ l', l.take n = l' := ⟨_, rfl⟩
  have HL := Lib.hid (hl' ▸ hl.take n hmn)
  clear hl hl'
  go_enter Try.func9, Try.ntmps9
  go_wp2_with fail
  obtain ⟨M, hM⟩ : ∃ M, w.heap.size = M := ⟨_, rfl⟩
  obtain ⟨W1, hW1⟩ : ∃ W1, w.alloc (.cells #[.int .u8 (m.kind : Int), .int .u8 (m.slot : Int), .int .u8 (m.val : Int)] 37) = W1 := ⟨_, rfl⟩
  have hb1 : Below w.heap.size w W1 := by rw [← hW1]; exact (Below.refl _ _).alloc (Nat.le_refl _) _
  have k1 : W1.heap[M]? = some (.cells #[.int .u8 (m.kind : Int), .int .u8 (m.slot : Int), .int .u8 (m.val : Int)] 37) := by rw [← hW1, ← hM]; exact blk_new _ _
  have HX := Lib.hid (And.intro hb1 (And.intro k1 hM))
  rw [hW1, hM]
  clear hb1 k1 hW1 hM
  refine (lg_new W1).mono ?_
  rintro e w2 ⟨D, b, rfl, h2, -⟩
  have H2 := Lib.hid (And.intro (show LG (fun z => z = M) w D b e0 0 w2 from h2.since HX.out.1 (fun z hz => .inl (by subst hz; exact lt_of_blk HX.out.2.1))) (blk_below' HX.out.2.1 h2.out))
  clear h2
  go_upto_region 2 with (fail)
  obtain ⟨P, hP⟩ : ∃ P, w2.heap.size = P := ⟨_, rfl⟩
  obtain ⟨W3, hW3⟩ : ∃ W3, w2.alloc (.cells #[.pointer (some ⟨D, 0, none⟩)] 22) = W3 := ⟨_, rfl⟩
  have hb3 : Below w2.heap.size w2 W3 := by rw [← hW3]; exact (Below.refl _ _).alloc (Nat.le_refl _) _
  have k3 : W3.heap[P]? = some (.cells #[.pointer (some ⟨D, 0, none⟩)] 22) := by rw [← hW3, ← hP]; exact blk_new _ _
  have H3 := Lib.hid (show S1 w M P P D b m e0 0 W3 from ⟨H2.out.1.more hb3 (fun z hz => by
    rcases hz with hz | hz | hz
    · exact .inl hz
    · subst hz; exact .inr ⟨Nat.le_of_eq hP, lt_of_blk k3⟩
    · subst hz; exact .inr ⟨Nat.le_of_eq hP, lt_of_blk k3⟩), blk_below' H2.out.2 hb3, k3, .empty⟩)
  rw [hW3, hP]
  clear hb3 k3 hW3 hP H2 HX
  go_wp2_with fail
  go_loopw [25] (fun iv wr => ∃ (k : Nat) (s : Ls), k ≤ n ∧ iv = .int .i64 (k : Int) ∧ S1 w M P P D b m s k wr) (fun iv _ => n - (intOf iv).toNat)
  case atStart => exact ⟨0, e0, Nat.zero_le _, rfl, H3.out⟩
  case round =>
    obtain ⟨k, s, hk, rfl, hs1⟩ := hrel
    have HB := Lib.hid hs1
    clear hs1
    by_cases hlt : k < n
    · have hkl : k < l'.length := by rw [HL.out.len]; exact hlt
      obtain ⟨mv, hmv⟩ : ∃ mv, l'[k]? = some mv := ⟨_, List.getElem?_eq_getElem hkl⟩
      obtain ⟨gb, go, rfl, c0, c1, c2⟩ := (HL.out.below HB.out.x.out).cells k mv hmv
      obtain ⟨hs1, hs2, hs3⟩ := HL.out.small k mv hmv
      obtain ⟨kd, sl, va⟩ := mv
      simp only at c0 c1 c2 hs1 hs2 hs3
      have hki : (k : Int) < (n : Int) := by omega
      clear hmv hkl
      go_upto_region 5 with (fail)
      obtain ⟨X, hX⟩ : ∃ X, wr.heap.size = X := ⟨_, rfl⟩
      obtain ⟨W4, hW4⟩ : ∃ W4, wr.alloc (.cells #[.int .u8 (kd : Int), .int .u8 (sl : Int), .int .u8 (va : Int)] 37) = W4 := ⟨_, rfl⟩
      have hb4 : Below wr.heap.size wr W4 := by rw [← hW4]; exact (Below.refl _ _).alloc (Nat.le_refl _) _
      have k4 : W4.heap[X]? = some (.cells #[.int .u8 (kd : Int), .int .u8 (sl : Int), .int .u8 (va : Int)] 37) := by rw [← hW4, ← hX]; exact blk_new _ _
      have H4 := Lib.hid (And.intro (show S1 w M P X D b m s k W4 from ⟨HB.out.x.more hb4 (fun z hz => by
        rcases hz with hz | hz | hz
        · exact .inl (.inl hz)
        · exact .inl (.inr (.inl hz))
        · subst hz; exact .inr ⟨Nat.le_of_eq hX, lt_of_blk k4⟩), blk_below' HB.out.mb hb4, blk_below' HB.out.pb hb4, HB.out.sv⟩) k4)
      rw [hW4, hX]
      have x0 := cell_blk k4 0
      have x1 := cell_blk k4 1
      have x2 := cell_blk k4 2
      have p0 := cell_blk H4.out.1.pb 0
      simp at x0 x1 x2 p0
      have zX := lt_of_blk k4
      have zP := lt_of_blk H4.out.1.pb
      clear hb4 k4 hW4 hX c0 c1 c2
      obtain ⟨st, hst, hst32⟩ : ∃ st : Nat, (sl : Int) % 32 = (st : Int) ∧ st < 32 := ⟨sl % 32, by omega, by omega⟩
      obtain ⟨r, hr, hr8⟩ : ∃ r : Nat, (kd : Int) % 8 = (r : Int) ∧ r < 8 := ⟨kd % 8, by omega, by omega⟩
      have HR := Lib.hid (And.intro hst hr)
      clear hst hr
      go_upto_region 6 with (fail)
      rw [HR.out.1]
      go_upto_block 2 with (fail)
      rw [HR.out.2]
      obtain rfl | rfl | hr2 : r = 0 ∨ r = 1 ∨ 2 ≤ r := by omega
      · go_wp2_with (go_at_call 27; refine (lg_forget H4.out.1.x (st : Int)).mono ?_; rintro e w5 ⟨rfl, h5, hu5⟩; have H5 := Lib.hid (H4.out.1.go h5 hu5 (H4.out.1.sv.fg (by omega))); clear h5 hu5 x0 x1 x2 p0 zX zP)
        go_roundw
        case rel => exact ⟨k + 1, _, hlt, by go_num, ⟨(H5.out.x.less (fun z hz => by rcases hz with hz | hz | hz; exact .inl hz; exact .inr (.inl hz); exact .inr (.inl hz))).mono (Nat.le_succ _), H5.out.mb, H5.out.pb, H5.out.sv⟩⟩
        case measure => simp [intOf] <;> omega
      · go_wp2_with (go_at_call 29; refine (lg_jump H4.out.1.x (st : Int)).mono ?_; rintro e w5 ⟨rfl, h5, hu5⟩; have H5 := Lib.hid (H4.out.1.go h5 hu5 (H4.out.1.sv.jp (by omega))); clear h5 hu5 x0 x1 x2 p0 zX zP)
        go_roundw
        case rel => exact ⟨k + 1, _, hlt, by go_num, ⟨(H5.out.x.less (fun z hz => by rcases hz with hz | hz | hz; exact .inl hz; exact .inr (.inl hz); exact .inr (.inl hz))).mono (Nat.le_succ _), H5.out.mb, H5.out.pb, H5.out.sv⟩⟩
        case measure => simp [intOf] <;> omega
      · have hr0 : ((r : Int) == 0) = false := by simp; omega
        have hr1 : ((r : Int) == 1) = false := by simp; omega
        go_upto_region 7 with (fail)
        have HC := Lib.hid (And.intro (H4.out.1.below (W' := W4.drew) (Below.refl _ _).drew) (blk_below' (w' := W4.drew) H4.out.2 (Below.refl _ _).drew))
        go_region_held3 (fun w' => w'.cell? ⟨P, 0, none⟩ = some (.pointer (some ⟨D, 0, none⟩)) ∧ w'.cell? ⟨X, 0, none⟩ = some (.int .u8 (kd : Int)) ∧ w'.cell? ⟨X, 1, none⟩ = some (.int .u8 (sl : Int)) ∧ w'.cell? ⟨X, 2, none⟩ = some (.int .u8 (va : Int))) (first | go_keep | (refine ⟨?_, ?_, ?_, ?_⟩ <;> assumption)) ((first
          | (go_at_call 23
             (with_reducible refine (lg_put HC.out.1.x (by omega) (st : Int) (mvb va) (by rw [mvb_size]; decide)).mono ?_)
             rintro e w6 ⟨rfl, h6, hu6⟩
             have H6 := Lib.hid (And.intro (HC.out.1.go h6 hu6 (HC.out.1.sv.put (by omega) (mvb_size va))) (hu6.blk HC.out.2 (fun f => f.2 (.inr (.inr rfl)))))
             clear h6 hu6 x0 x1 x2 p0 zX zP
             have x0 := cell_blk H6.out.2 0
             have x1 := cell_blk H6.out.2 1
             have x2 := cell_blk H6.out.2 2
             have p0 := cell_blk H6.out.1.pb 0
             simp at x0 x1 x2 p0
             have zX := lt_of_blk H6.out.2
             have zP := lt_of_blk H6.out.1.pb)
          | (go_at_call 33
             (with_reducible refine (mval33 kd sl va _ hs3).mono ?_)
             rintro e w5 ⟨rfl, hb5⟩
             have HC := Lib.hid (And.intro (HC.out.1.below hb5) (blk_below' HC.out.2 hb5))
             clear hb5 x0 x1 x2 p0 zX zP
             have x0 := cell_blk HC.out.2 0
             have x1 := cell_blk HC.out.2 1
             have x2 := cell_blk HC.out.2 2
             have p0 := cell_blk HC.out.1.pb 0
             simp at x0 x1 x2 p0
             have zX := lt_of_blk HC.out.2
             have zP := lt_of_blk HC.out.1.pb)))
        clear x0 x1 x2 p0 zX zP
        go_wp2_with fail
        go_roundw
        case rel => exact ⟨k + 1, _, hlt, by go_num, ⟨(H6.out.1.x.less (fun z hz => by rcases hz with hz | hz | hz; exact .inl hz; exact .inr (.inl hz); exact .inr (.inl hz))), H6.out.1.mb, H6.out.1.pb, H6.out.1.sv⟩⟩
        case measure => simp [intOf] <;> omega
    · obtain rfl : k = n := by omega
      have p0 := cell_blk HB.out.pb 0
      simp at p0
      have zP := lt_of_blk HB.out.pb
      go_wp2_with fail
      refine (lg_copy HB.out.x).mono ?_
      rintro e w5 ⟨CC, bc, rfl, h5, hb5⟩
      have H5 := Lib.hid (And.intro (HB.out.below hb5) (And.intro h5 hb5))
      clear h5 hb5 p0 zP
      go_upto_region 14 with (fail)
      obtain ⟨Q, hQ⟩ : ∃ Q, w5.heap.size = Q := ⟨_, rfl⟩
      obtain ⟨W6, hW6⟩ : ∃ W6, w5.alloc (.cells #[.pointer (some ⟨CC, 0, none⟩)] 22) = W6 := ⟨_, rfl⟩
      have hb6 : Below w5.heap.size w5 W6 := by rw [← hW6]; exact (Below.refl _ _).alloc (Nat.le_refl _) _
      have k6 : W6.heap[Q]? = some (.cells #[.pointer (some ⟨CC, 0, none⟩)] 22) := by rw [← hW6, ← hQ]; exact blk_new _ _
      have hss : SS w M P Q D b CC bc m s k s k W6 := by
        obtain ⟨hS, h5, hb5⟩ := H5.out
        have l1 := HB.out.x.lt
        have l2 := lt_of_blk HB.out.mb
        have l3 := lt_of_blk HB.out.pb
        have l4 := h5.lo
        have l5 := h5.lt
        have l6 := hb6.size
        refine ⟨HB.out.x.more (belowStep hb5 hb6) (fun z hz => ?_), (h5.since (G' := fun z => (z = D ∨ z = b) ∨ (z = M ∨ z = P)) HB.out.x.out (fun z hz => .inl (by rcases hz with (hz | hz) | (hz | hz) <;> subst hz <;> omega))).more hb6 (fun z hz => ?_), blk_below' hS.mb hb6, blk_below' hS.pb hb6, k6⟩
        · rcases hz with (hz | hz) | (hz | hz | hz)
          · subst hz; right; omega
          · subst hz; right; omega
          · exact .inl (.inl hz)
          · exact .inl (.inr (.inl hz))
          · subst hz; exact .inr ⟨by have := hb5.size; omega, lt_of_blk k6⟩
        · rcases hz with (hz | hz) | (hz | hz | hz)
          · exact .inl (.inl (.inl hz))
          · exact .inl (.inl (.inr hz))
          · exact .inl (.inr (.inl hz))
          · exact .inl (.inr (.inr hz))
          · subst hz; exact .inr ⟨by omega, lt_of_blk k6⟩
      have HSV := Lib.hid HB.out.sv
      rw [hW6, hQ]
      have H6 := Lib.hid hss
      clear hb6 k6 hW6 hQ hss H5 HB
      obtain ⟨p0, q0, zP, zQ⟩ := H6.out.cells
      go_upto_region 17 with (fail)
      have HC := Lib.hid (H6.out.below (W' := W6.drew) (Below.refl _ _).drew)
      go_region_held3 (fun w' => w'.cell? ⟨P, 0, none⟩ = some (.pointer (some ⟨D, 0, none⟩))) (first | go_keep | assumption) ((first
        | (go_at_call 29; (with_reducible refine (lg_jump_v HC.out.x 4097 2 s (by unfold jpE; rw [if_pos (.inr (by decide))]) (by unfold jpT; rw [if_neg (by unfold jpE; rw [if_pos (.inr (by decide))]; decide)])).mono ?_); rintro e wz ⟨rfl, hz, hzu⟩; have HC := Lib.hid (HC.out.goX hz hzu); clear hz hzu p0 q0 zP zQ; obtain ⟨p0, q0, zP, zQ⟩ := HC.out.cells)
        | (go_at_call 29; (with_reducible refine (lg_jump_v HC.out.x (-1) 2 s (by unfold jpE; rw [if_pos (.inl (by decide))]) (by unfold jpT; rw [if_neg (by unfold jpE; rw [if_pos (.inl (by decide))]; decide)])).mono ?_); rintro e wz ⟨rfl, hz, hzu⟩; have HC := Lib.hid (HC.out.goX hz hzu); clear hz hzu p0 q0 zP zQ; obtain ⟨p0, q0, zP, zQ⟩ := HC.out.cells)
        | (go_at_call 27; (with_reducible refine (lg_forget_v HC.out.x 4097 2 s (by unfold fgE; rw [if_pos (.inr (by decide))]) (by unfold fgT; rw [if_neg (fun h => absurd h.1 (by unfold fgE; rw [if_pos (.inr (by decide))]; decide))])).mono ?_); rintro e wz ⟨rfl, hz, hzu⟩; have HC := Lib.hid (HC.out.goX hz hzu); clear hz hzu p0 q0 zP zQ; obtain ⟨p0, q0, zP, zQ⟩ := HC.out.cells)
        | (go_at_call 27; (with_reducible refine (lg_forget_v HC.out.x (-1) 2 s (by unfold fgE; rw [if_pos (.inl (by decide))]) (by unfold fgT; rw [if_neg (fun h => absurd h.1 (by unfold fgE; rw [if_pos (.inl (by decide))]; decide))])).mono ?_); rintro e wz ⟨rfl, hz, hzu⟩; have HC := Lib.hid (HC.out.goX hz hzu); clear hz hzu p0 q0 zP zQ; obtain ⟨p0, q0, zP, zQ⟩ := HC.out.cells)
        | (go_at_call 23; (with_reducible refine (lg_put_v HC.out.x (by omega) 4096 ⟨#[]⟩ (by decide) 2 s (putE_arg (.inr (by decide))) (putT_no (by rw [putE_arg (.inr (by decide))]; decide))).mono ?_); rintro e wz ⟨rfl, hz, hzu⟩; have HC := Lib.hid (HC.out.goX hz hzu); clear hz hzu p0 q0 zP zQ; obtain ⟨p0, q0, zP, zQ⟩ := HC.out.cells)
        | (go_at_call 23; (with_reducible refine (lg_put_v HC.out.x (by omega) (-1) ⟨#[]⟩ (by decide) 2 s (putE_arg (.inl (by decide))) (putT_no (by rw [putE_arg (.inl (by decide))]; decide))).mono ?_); rintro e wz ⟨rfl, hz, hzu⟩; have HC := Lib.hid (HC.out.goX hz hzu); clear hz hzu p0 q0 zP zQ; obtain ⟨p0, q0, zP, zQ⟩ := HC.out.cells)))
      go_wp2_with fail
      obtain ⟨Z, hZ⟩ : ∃ Z, wz.heap.size = Z := ⟨_, rfl⟩
      obtain ⟨W8, hW8⟩ : ∃ W8, wz.alloc (.cells #[.int .i64 2, .int .i64 2, .int .i64 2, .int .i64 2, .int .i64 2, .int .i64 2] 24) = W8 := ⟨_, rfl⟩
      have hb8 : Below wz.heap.size wz W8 := by rw [← hW8]; exact (Below.refl _ _).alloc (Nat.le_refl _) _
      have k8 : W8.heap[Z]? = some (.cells #[.int .i64 2, .int .i64 2, .int .i64 2, .int .i64 2, .int .i64 2, .int .i64 2] 24) := by rw [← hW8, ← hZ]; exact blk_new _ _
      have HC := Lib.hid (HC.out.below hb8)
      have HZ := Lib.hid k8
      rw [hW8, hZ]
      clear hb8 k8 hW8 hZ p0 q0 zP zQ H6 H3
      go_loopw [71] (fun iv wr => ∃ j : Nat, j ≤ 6 ∧ iv = .int .i64 (j : Int) ∧ W8 = wr) (fun iv _ => 6 - (intOf iv).toNat)
      case atStart => exact ⟨0, Nat.zero_le _, rfl, by first | rfl | trivial⟩
      case round =>
        obtain ⟨j, hj, rfl, rfl⟩ := hrel
        by_cases hj6 : j < 6
        · have cj : W8.cell? ⟨Z, j, none⟩ = some (.int .i64 2) := by
            rw [cell_blk HZ.out]
            have : j = 0 ∨ j = 1 ∨ j = 2 ∨ j = 3 ∨ j = 4 ∨ j = 5 := by omega
            rcases this with rfl | rfl | rfl | rfl | rfl | rfl <;> rfl
          have zZ := lt_of_blk HZ.out
          have hji : (j : Int) < 6 := by omega
          go_wp2
          go_roundw
          case rel => exact ⟨j + 1, hj6, by go_num, by first | rfl | trivial⟩
          case measure => simp [intOf] <;> omega
        · obtain rfl : j = 6 := by omega
          obtain ⟨bs, hbs⟩ : ∃ bs, s.base = bs := ⟨_, rfl⟩
          obtain ⟨up, hup⟩ : ∃ up, s.upto = up := ⟨_, rfl⟩
          have hok := HC.out.x.ok
          have hb0 : 0 ≤ bs := by rw [← hbs]; exact hok.b0
          have hbu : bs ≤ up := by rw [← hbs, ← hup]; exact hok.bu
          have hu32 : up ≤ 32 := by rw [← hup]; exact Int.le_trans hok.ut HSV.out.2
          have HU := Lib.hid (And.intro hbs hup)
          have HE := Lib.hid (show (∀ W : World, LogIn W D s → Calls Try.prog 27 #[.pointer (some ⟨D, 0, none⟩), .int .i64 (up + 1)] W fun e w' => e = .returned (.int .i64 3) ∧ W = w') ∧
              (∀ W : World, 0 < up → LogIn W D s → Calls Try.prog 29 #[.pointer (some ⟨D, 0, none⟩), .int .i64 (up - 1)] W fun e w' => e = .returned (.int .i64 8) ∧ W = w') ∧
              (∀ W : World, 0 < bs → LogIn W D s → Calls Try.prog 23 #[.pointer (some ⟨D, 0, none⟩), .int .i64 (bs - 1), .string ⟨#[122]⟩] W fun e w' => e = .returned (.int .i64 8) ∧ W = w') ∧
              (∀ W : World, bs < up → LogIn W D s → Calls Try.prog 23 #[.pointer (some ⟨D, 0, none⟩), .int .i64 bs, .string (⟨#[110, 111, 32, 115, 117, 99, 104, 32, 118, 97, 108, 117, 101]⟩ : ByteArray)] W fun e w' => e = .returned (.int .i64 9) ∧ W = w') from
            ⟨fun W h => q_fg3 h (up + 1) (by omega) (by omega) (by omega), fun W h1 h => q_jp8 h (up - 1) (by omega) (by omega) (by omega), fun W h1 h => q_put8 h (bs - 1) _ (by omega) (by omega) (by decide) (by omega), fun W h1 h => by
              obtain ⟨x, hx⟩ := Option.isSome_iff_exists.1 (hok.run bs (by omega) (by omega))
              exact q_put9 h bs _ x (by omega) (by omega) (by decide) (by omega) hx (fun e => by have h2 := HSV.out.1 _ _ hx; rw [e] at h2; exact absurd h2 (by decide))⟩)
          clear hbs hup hok
          obtain ⟨p0, q0, zP, zQ⟩ := HC.out.cells
          go_upto_region 23 with (fail)
          go_cut [128] from 78 to 128 (fun v wx => v = .bool false ∧ SS w M P Q D b CC bc m s (k + 1 + 1) s k wx)
          case first =>
            have e1 : IntKind.i64.wrap (up + 1) = up + 1 := IntWalk.i64_in _ (by omega)
            have e2 : IntKind.i64.wrap (up - 1) = up - 1 := IntWalk.i64_in _ (by omega)
            have e3 : IntKind.i64.wrap (bs - 1) = bs - 1 := IntWalk.i64_in _ (by omega)
            have HS := Lib.hid HC.out.s2
            have hcP : ∀ u : Later W8, u.w.cell? ⟨P, 0, none⟩ = some (.pointer (some ⟨D, 0, none⟩)) := fun u => (u.cell _ _ zP).trans p0
            by_cases h1 : 0 < up
            · by_cases h2 : 0 < bs
              · by_cases h3 : bs < up
                · have d1 : decide (0 < up) = true := by simp; omega
                  have d2 : decide (0 < bs) = true := by simp; omega
                  have d3 : decide (bs < up) = true := by simp; omega
                  refine wp_region_later (by kernel_rfl) (by kernel_rfl) ?_
                  repeat (go_big_quiet_step (first
                    | (go_at_call 24; exact later_same (inn_upto (HS.out.below (Later.h _)).x up HU.out.2))
                    | (go_at_call 28; exact later_same (inn_base (HS.out.below (Later.h _)).x bs HU.out.1))
                    | (go_at_call 27; (with_reducible refine later_same (HE.out.1 _ ?_)); (exact (HS.out.below (Later.h _)).x))
                    | (go_at_call 29; (with_reducible refine later_same (HE.out.2.1 _ ?_ ?_)); (omega); (exact (HS.out.below (Later.h _)).x))
                    | (go_at_call 23; (with_reducible refine later_same (HE.out.2.2.1 _ ?_ ?_)); (omega); (exact (HS.out.below (Later.h _)).x))
                    | (go_at_call 23; (with_reducible refine later_same (HE.out.2.2.2 _ ?_ ?_)); (omega); (exact (HS.out.below (Later.h _)).x))
                    | (exact later_below (stays46 (HS.out.below (Later.h _)).self rfl rfl))))
                  refine wpQuiet_nil ?_
                  rintro _ ⟨⟨w9, hbl9⟩, rfl⟩
                  have H9 := Lib.hid hbl9
                  clear hbl9
                  go_wp2_with fail
                  go_meet
                  case rel => exact ⟨by first | rfl | trivial, HC.out.below H9.out⟩
                · have d1 : decide (0 < up) = true := by simp; omega
                  have d2 : decide (0 < bs) = true := by simp; omega
                  have d3 : decide (bs < up) = false := by simp; omega
                  refine wp_region_later (by kernel_rfl) (by kernel_rfl) ?_
                  repeat (go_big_quiet_step (first
                    | (go_at_call 24; exact later_same (inn_upto (HS.out.below (Later.h _)).x up HU.out.2))
                    | (go_at_call 28; exact later_same (inn_base (HS.out.below (Later.h _)).x bs HU.out.1))
                    | (go_at_call 27; (with_reducible refine later_same (HE.out.1 _ ?_)); (exact (HS.out.below (Later.h _)).x))
                    | (go_at_call 29; (with_reducible refine later_same (HE.out.2.1 _ ?_ ?_)); (omega); (exact (HS.out.below (Later.h _)).x))
                    | (go_at_call 23; (with_reducible refine later_same (HE.out.2.2.1 _ ?_ ?_)); (omega); (exact (HS.out.below (Later.h _)).x))
                    | (go_at_call 23; (with_reducible refine later_same (HE.out.2.2.2 _ ?_ ?_)); (omega); (exact (HS.out.below (Later.h _)).x))
                    | (exact later_below (stays46 (HS.out.below (Later.h _)).self rfl rfl))))
                  refine wpQuiet_nil ?_
                  rintro _ ⟨⟨w9, hbl9⟩, rfl⟩
                  have H9 := Lib.hid hbl9
                  clear hbl9
                  go_wp2_with fail
                  go_meet
                  case rel => exact ⟨by first | rfl | trivial, HC.out.below H9.out⟩
              · have d1 : decide (0 < up) = true := by simp; omega
                have d2 : decide (0 < bs) = false := by simp; omega
                have d3 : decide (bs < up) = true := by simp; omega
                refine wp_region_later (by kernel_rfl) (by kernel_rfl) ?_
                repeat (go_big_quiet_step (first
                  | (go_at_call 24; exact later_same (inn_upto (HS.out.below (Later.h _)).x up HU.out.2))
                  | (go_at_call 28; exact later_same (inn_base (HS.out.below (Later.h _)).x bs HU.out.1))
                  | (go_at_call 27; (with_reducible refine later_same (HE.out.1 _ ?_)); (exact (HS.out.below (Later.h _)).x))
                  | (go_at_call 29; (with_reducible refine later_same (HE.out.2.1 _ ?_ ?_)); (omega); (exact (HS.out.below (Later.h _)).x))
                  | (go_at_call 23; (with_reducible refine later_same (HE.out.2.2.1 _ ?_ ?_)); (omega); (exact (HS.out.below (Later.h _)).x))
                  | (go_at_call 23; (with_reducible refine later_same (HE.out.2.2.2 _ ?_ ?_)); (omega); (exact (HS.out.below (Later.h _)).x))
                  | (exact later_below (stays46 (HS.out.below (Later.h _)).self rfl rfl))))
                refine wpQuiet_nil ?_
                rintro _ ⟨⟨w9, hbl9⟩, rfl⟩
                have H9 := Lib.hid hbl9
                clear hbl9
                go_wp2_with fail
                go_meet
                case rel => exact ⟨by first | rfl | trivial, HC.out.below H9.out⟩
            · have d1 : decide (0 < up) = false := by simp; omega
              have d2 : decide (0 < bs) = false := by simp; omega
              have d3 : decide (bs < up) = false := by simp; omega
              refine wp_region_later (by kernel_rfl) (by kernel_rfl) ?_
              repeat (go_big_quiet_step (first
                | (go_at_call 24; exact later_same (inn_upto (HS.out.below (Later.h _)).x up HU.out.2))
                | (go_at_call 28; exact later_same (inn_base (HS.out.below (Later.h _)).x bs HU.out.1))
                | (go_at_call 27; (with_reducible refine later_same (HE.out.1 _ ?_)); (exact (HS.out.below (Later.h _)).x))
                | (go_at_call 29; (with_reducible refine later_same (HE.out.2.1 _ ?_ ?_)); (omega); (exact (HS.out.below (Later.h _)).x))
                | (go_at_call 23; (with_reducible refine later_same (HE.out.2.2.1 _ ?_ ?_)); (omega); (exact (HS.out.below (Later.h _)).x))
                | (go_at_call 23; (with_reducible refine later_same (HE.out.2.2.2 _ ?_ ?_)); (omega); (exact (HS.out.below (Later.h _)).x))
                | (exact later_below (stays46 (HS.out.below (Later.h _)).self rfl rfl))))
              refine wpQuiet_nil ?_
              rintro _ ⟨⟨w9, hbl9⟩, rfl⟩
              have H9 := Lib.hid hbl9
              clear hbl9
              go_wp2_with fail
              go_meet
              case rel => exact ⟨by first | rfl | trivial, HC.out.below H9.out⟩
          case rest =>
            obtain ⟨rfl, hss⟩ := hcut
            have H9 := Lib.hid hss
            clear hss HC p0 q0 zP zQ
            obtain ⟨pl, hpl⟩ : ∃ pl, prefL s = pl := ⟨_, rfl⟩
            obtain ⟨gl, hgl⟩ : ∃ gl, gapsL s = gl := ⟨_, rfl⟩
            have HPG := Lib.hid (And.intro hpl hgl)
            clear hpl hgl
            obtain ⟨p0, q0, zP, zQ⟩ := H9.out.cells
            go_upto_region 25 with (fail)
            have HC := Lib.hid (H9.out.below (W' := wc.drew) (Below.refl _ _).drew)
            go_region_held3 (fun w' => w'.cell? ⟨P, 0, none⟩ = some (.pointer (some ⟨D, 0, none⟩))) (first | go_keep | assumption) ((first
              | (go_at_call 26
                 (with_reducible refine (inn_gaps H10.out.1.x.inn gl HPG.out.2).mono ?_)
                 rintro e w11 ⟨v11, rfl, ho, hb⟩
                 obtain ⟨A11, C11, rfl, hv⟩ := ho.iv gl.length rfl
                 have H11 := Lib.hid (And.intro (H10.out.1.below hb) (And.intro (row_below H10.out.2.1 hb) (And.intro ho (And.intro H10.out.2.2 (show wc.heap.size ≤ w10.heap.size from H10.out.2.2.size)))))
                 clear ho hb hv p0 q0 zP zQ
                 obtain ⟨p0, q0, zP, zQ⟩ := H11.out.1.cells)
              | (go_at_call 25
                 (with_reducible refine (inn_prefix HC.out.x.inn pl HPG.out.1).mono ?_)
                 rintro e w10 ⟨v10, rfl, ho, hb⟩
                 obtain ⟨A10, C10, rfl, hv⟩ := ho.sv pl.length rfl
                 have H10 := Lib.hid (And.intro (HC.out.below hb) (And.intro ho (show Below wc.heap.size wc w10 from (Below.refl _ _).drew.trans hb)))
                 clear ho hb hv p0 q0 zP zQ
                 obtain ⟨p0, q0, zP, zQ⟩ := H10.out.1.cells)))
            clear p0 q0 zP zQ
            have hl9 := H9.out.lt
            go_wp2_with (first
              | (refine wpList_clear_row rfl _ 27 9 (.string ⟨#[]⟩) rfl Try.underlying27 zeroS rfl rfl wc.heap.size pl.length (.slice A10 pl.length C10) _ rfl H11.out.2.1 ?_; intro w12 hU12; have H12 := Lib.hid (H11.out.1.upd hU12 (fun z hz => by have h1 := (World.ownsRow.lt H11.out.2.1 z hz).1; have h1 : wc.heap.size ≤ z := h1; have h2 := H9.out.x.out.size; exact ⟨by omega, by omega, by omega, by omega, by omega, by omega, by omega, by omega⟩)); have H12g := Lib.hid (row_upd H11.out.2.2.1 hU12 (fun z hz hz2 => by have h1 := (World.ownsRow.lt H11.out.2.2.1 z hz).1; have h2 := (World.ownsRow.lt H10.out.2.1 z hz2).2; omega)); clear hU12)
              | (refine wpList_clear_row rfl _ 29 3 (.int .i64 0) rfl Try.underlying29 zeroI rfl rfl w10.heap.size gl.length (.slice A11 gl.length C11) _ rfl H12g.out ?_; intro w13 hU13; have H13 := Lib.hid (H12.out.upd hU13 (fun z hz => by have h1 := (World.ownsRow.lt H11.out.2.2.1 z hz).1; have h3 := H11.out.2.2.2.2; have h2 := H9.out.x.out.size; exact ⟨by omega, by omega, by omega, by omega, by omega, by omega, by omega, by omega⟩)); clear hU13))
            refine (stays46 H13.out.s2.self rfl rfl).mono ?_
            rintro e w14 ⟨rfl, hb14⟩
            have H14 := Lib.hid (H13.out.below hb14)
            clear hb14
            obtain ⟨p0, q0, zP, zQ⟩ := H14.out.cells
            go_wp2_with fail
            refine (inn_upto H14.out.x.inn up HU.out.2).mono ?_
            rintro e w' ⟨rfl, rfl⟩
            go_upto_region 31 with (fail)
            have hpe : putE s up (mvb m.val) = 0 := putE_zero (by omega) (by omega) (by rw [mvb_size]; decide) (by rw [HU.out.1]; exact hbu) (.inl (by
              have := H14.out.x.ok.stop
              rw [HU.out.2] at this
              cases e : s.f up with
              | none => rfl
              | some y => rw [e] at this; cases this))
            have hpu : up < (putT s up (mvb m.val)).upto := by have := put_upto H14.out.x.ok (v := mvb m.val) (by rw [HU.out.2]; exact hpe); rwa [HU.out.2] at this
            obtain ⟨t2, ht2⟩ : ∃ t2, putT s up (mvb m.val) = t2 := ⟨_, rfl⟩
            rw [ht2] at hpu
            obtain ⟨uq, huq⟩ : ∃ uq, t2.upto = uq := ⟨_, rfl⟩
            rw [huq] at hpu
            have HT := Lib.hid (And.intro hpe (And.intro ht2 huq))
            have hd9 : decide (uq ≤ up) = false := by simp; omega
            clear hpe ht2 huq
            have HC := Lib.hid (H14.out.below (W' := w14.drew) (Below.refl _ _).drew)
            obtain ⟨m0, m1, m2, zM⟩ := H14.out.mcells
            go_region_held3 (fun w' => w'.cell? ⟨P, 0, none⟩ = some (.pointer (some ⟨D, 0, none⟩)) ∧ w'.cell? ⟨Q, 0, none⟩ = some (.pointer (some ⟨CC, 0, none⟩)) ∧ w'.cell? ⟨M, 0, none⟩ = some (.int .u8 (m.kind : Int)) ∧ w'.cell? ⟨M, 1, none⟩ = some (.int .u8 (m.slot : Int)) ∧ w'.cell? ⟨M, 2, none⟩ = some (.int .u8 (m.val : Int))) (first | go_keep | (refine ⟨?_, ?_, ?_, ?_, ?_⟩ <;> assumption)) ((first
              | (go_at_call 24; (with_reducible refine (inn_upto H16.out.y.inn uq HT.out.2.2).mono ?_); rintro e w' ⟨rfl, rfl⟩)
              | (go_at_call 24; (with_reducible refine (inn_upto H16.out.x.inn up HU.out.2).mono ?_); rintro e w' ⟨rfl, rfl⟩)
              | (go_at_call 23
                 (with_reducible refine (lg_put_v H15.out.y (by omega) up (mvb m.val) (by rw [mvb_size]; decide) 0 t2 HT.out.1 HT.out.2.1).mono ?_)
                 rintro e w16 ⟨rfl, h16, hu16⟩
                 have H16 := Lib.hid (H15.out.goY h16 hu16)
                 clear h16 hu16 p0 q0 zP zQ m0 m1 m2 zM
                 obtain ⟨p0, q0, zP, zQ⟩ := H16.out.cells
                 obtain ⟨m0, m1, m2, zM⟩ := H16.out.mcells)
              | (go_at_call 33
                 (with_reducible refine (mval33 m.kind m.slot m.val _ hm3).mono ?_)
                 rintro e w15 ⟨rfl, hb15⟩
                 have H15 := Lib.hid (HC.out.below hb15)
                 clear hb15 p0 q0 zP zQ m0 m1 m2 zM
                 obtain ⟨p0, q0, zP, zQ⟩ := H15.out.cells
                 obtain ⟨m0, m1, m2, zM⟩ := H15.out.mcells)))
            go_wp2_with fail
            refine (inn_get H16.out.x.inn up (by unfold inI; omega) ⟨#[]⟩ false (by have h := H16.out.x.ok.stop; rw [HU.out.2] at h; cases e : s.f up with | none => rfl | some y => rw [e] at h; cases h) (by have h := H16.out.x.ok.stop; rw [HU.out.2] at h; cases e : s.f up with | none => rfl | some y => rw [e] at h; cases h)).mono ?_
            rintro e w' ⟨rfl, rfl⟩
            go_wp2_with fail
            refine (works15_any _).mono ?_
            rintro e w17 ⟨rfl, hb17⟩
            have H17 := Lib.hid (belowStep H16.out.x.out hb17)
            clear hb17
            go_wp2
            go_ret
            exact ⟨rfl, H17.out⟩
end Go.Proofs.Ytjkgbofeogaeoaa
