/- The walk of skaldlaw15.SlotsNever. -/
import Derived.Test.YtjkgbofeogaeoaaMoves
import Derived.Test.YtjkgbofeogaeoaaMsgs
import Derived.Deep.MidRow
import Derived.Deep.Cut
import Derived.Deep.CutRange
import Derived.Deep.CutBlock
namespace Go.Proofs.Ytjkgbofeogaeoaa
open Go.RowKit

theorem idx35 (cs : Array Value) (i : Nat) (v : Value) (h : cs[i]? = some v) (h32 : i < 32) (w : World) : (Instr.index 35 (.agg cs) (.int .i64 (i : Int))).run Try.prog w = .ok v w := by
  have hi := (Array.getElem?_eq_some_iff.1 h).1
  have he := (Array.getElem?_eq_some_iff.1 h).2
  simp [Instr.index, run_underlying Try.underlying35, asIntOf, go_sem, hi, he]
  omega
/-- What is known of a log beside the values that slots below 32 ever had. -/
structure Ever (s : Ls) (ev : List ByteArray) : Prop where
  len : ev.length = 32
  yes : ∀ (i : Nat) (u : ByteArray), i < 32 → s.f (i : Int) = some u → ev[i]? = some u
  no : ∀ (i : Nat), i < 32 → s.f (i : Int) = none → ev[i]? = some ⟨#[]⟩ ∨ (i : Int) < s.base
theorem Ever.empty : Ever e0 (List.replicate 32 ⟨#[]⟩) := ⟨rfl, (fun i u _ h => by cases h), (fun i hi _ => .inl (by rw [List.getElem?_replicate, if_pos hi]))⟩
/-- A new base. -/
theorem Ever.cut {s s' : Ls} {ev : List ByteArray} (h : Ever s ev) (hb : s.base ≤ s'.base) (hf : ∀ j, s'.f j = if j < s'.base then none else s.f j) : Ever s' ev :=
  ⟨h.len, fun i u hi e => by
    rw [hf] at e
    split at e
    · cases e
    · exact h.yes i u hi e, fun i hi e => by
    rw [hf] at e
    split at e
    · rename_i hl; exact .inr hl
    · rcases h.no i hi e with h1 | h1
      · exact .inl h1
      · exact .inr (by omega)⟩
/-- A value is put. -/
theorem Ever.put {s s' : Ls} {ev : List ByteArray} (h : Ever s ev) (k : Nat) (hk : k < 32) (v : ByteArray) (hb : s'.base = s.base) (hf : s'.f = updS s.f (k : Int) v) : Ever s' (ev.set k v) :=
  ⟨by rw [List.length_set]; exact h.len, fun i u hi e => by
    rw [hf] at e
    by_cases e1 : i = k
    · subst e1
      rw [updS_same] at e
      rw [List.getElem?_set_self (by rw [h.len]; exact hi), Option.some.inj e]
    · rw [updS_other _ _ (by omega)] at e
      rw [List.getElem?_set_ne (fun e2 => e1 e2.symm)]
      exact h.yes i u hi e, fun i hi e => by
    rw [hf] at e
    by_cases e1 : i = k
    · subst e1
      rw [updS_same] at e; cases e
    · rw [updS_other _ _ (by omega)] at e
      rw [List.getElem?_set_ne (fun e2 => e1 e2.symm), hb]
      exact h.no i hi e⟩
theorem put_up {s : Ls} (h : Lk s) {k : Int} {v : ByteArray} (hE : putE s k v = 0) : s.upto ≤ (putT s k v).upto := by
  obtain ⟨p1, p2, -⟩ := putT_ok hE
  rcases Classical.em (s.upto ≤ (putT s k v).upto) with h1 | h1
  · exact h1
  · have hk := h.putT k v
    have h2 := hk.stop
    have h3 := h.run (putT s k v).upto (by have := hk.bu; rw [p2] at this; exact this) (by omega)
    rw [p1] at h2
    unfold updS at h2
    split at h2
    · cases h2
    · rw [h2] at h3; cases h3
theorem cut_up (s : Ls) (u : Int) : s.upto ≤ (cutS s u).upto := by
  have := (fillN_ge (cutF s.f u) (max s.top u - max s.upto u).toNat (max s.upto u)).1
  show s.upto ≤ fillN _ _ _
  omega
/-- The log, the values that were, and a kept block. -/
structure NI (w : World) (E X D b : Nat) (s : Ls) (c : Nat) (ev : List ByteArray) (W : World) : Prop where
  lg : LG (fun z => z = E ∨ z = X) w D b s c W
  blk : W.heap[E]? = some (.cells (ev.map Value.string).toArray 35)
  ev : Ever s ev
  lo : w.heap.size ≤ E
theorem NI.below {w W W' : World} {E X D b c : Nat} {s : Ls} {ev : List ByteArray} (h : NI w E X D b s c ev W) (hb : Below W.heap.size W W') : NI w E X D b s c ev W' := ⟨h.lg.below hb, blk_below' h.blk hb, h.ev, h.lo⟩
theorem NI.range {w W : World} {E X D b c : Nat} {s : Ls} {ev : List ByteArray} (h : NI w E X D b s c ev W) : W.rangeAt E 0 (ev.map Value.string) := fun j v hv => by
  rw [cell_blk h.blk, Nat.zero_add]; simpa using hv
theorem NI.size {w W : World} {E X D b c : Nat} {s : Ls} {ev : List ByteArray} (h : NI w E X D b s c ev W) : (Try.prog.info? 35).map (·.size) = some (ev.map Value.string).length := by
  rw [List.length_map, h.ev.len]; kernel_rfl
/-- Beside them the box of the move. -/
structure NM (w : World) (E X D b kd sl va : Nat) (s : Ls) (c : Nat) (ev : List ByteArray) (W : World) : Prop where
  ni : NI w E X D b s c ev W
  box : W.heap[X]? = some (.cells #[.int .u8 (kd : Int), .int .u8 (sl : Int), .int .u8 (va : Int)] 37)
theorem box3 {W : World} {X : Nat} {a b c : Value} {t : TypeId} (h : W.heap[X]? = some (.cells #[a, b, c] t)) : W.cell? ⟨X, 0, none⟩ = some a ∧ W.cell? ⟨X, 1, none⟩ = some b ∧ W.cell? ⟨X, 2, none⟩ = some c ∧ X < W.heap.size :=
  ⟨by rw [cell_blk h]; rfl, by rw [cell_blk h]; rfl, by rw [cell_blk h]; rfl, lt_of_blk h⟩
theorem NM.below {w W W' : World} {E X D b kd sl va c : Nat} {s : Ls} {ev : List ByteArray} (h : NM w E X D b kd sl va s c ev W) (hb : Below W.heap.size W W') : NM w E X D b kd sl va s c ev W' := ⟨h.ni.below hb, blk_below' h.box hb⟩
theorem NM.cells {w W : World} {E X D b kd sl va c : Nat} {s : Ls} {ev : List ByteArray} (h : NM w E X D b kd sl va s c ev W) : W.cell? ⟨X, 0, none⟩ = some (.int .u8 (kd : Int)) ∧ W.cell? ⟨X, 1, none⟩ = some (.int .u8 (sl : Int)) ∧ W.cell? ⟨X, 2, none⟩ = some (.int .u8 (va : Int)) ∧ X < W.heap.size := box3 h.box
/-- A value was put; the values that were do not know of it yet. -/
structure NO (w : World) (E X D b kd sl va : Nat) (s : Ls) (c : Nat) (ev : List ByteArray) (W : World) : Prop where
  lg : LG (fun z => z = E ∨ z = X) w D b s c W
  blk : W.heap[E]? = some (.cells (ev.map Value.string).toArray 35)
  box : W.heap[X]? = some (.cells #[.int .u8 (kd : Int), .int .u8 (sl : Int), .int .u8 (va : Int)] 37)
  len : ev.length = 32
  lo : w.heap.size ≤ E
theorem NO.below {w W W' : World} {E X D b kd sl va c : Nat} {s : Ls} {ev : List ByteArray} (h : NO w E X D b kd sl va s c ev W) (hb : Below W.heap.size W W') : NO w E X D b kd sl va s c ev W' := ⟨h.lg.below hb, blk_below' h.blk hb, blk_below' h.box hb, h.len, h.lo⟩
theorem NO.cells {w W : World} {E X D b kd sl va c : Nat} {s : Ls} {ev : List ByteArray} (h : NO w E X D b kd sl va s c ev W) : W.cell? ⟨X, 0, none⟩ = some (.int .u8 (kd : Int)) ∧ W.cell? ⟨X, 1, none⟩ = some (.int .u8 (sl : Int)) ∧ W.cell? ⟨X, 2, none⟩ = some (.int .u8 (va : Int)) ∧ X < W.heap.size := box3 h.box
theorem NO.at {w W : World} {E X D b kd sl va c : Nat} {s : Ls} {ev : List ByteArray} (h : NO w E X D b kd sl va s c ev W) (i : Nat) (hi : i < 32) : ∃ u, W.cell? ⟨E, i, none⟩ = some (.string u) := by
  obtain ⟨x, hx⟩ : ∃ x, ev[i]? = some x := ⟨_, List.getElem?_eq_getElem (by rw [h.len]; exact hi)⟩
  exact ⟨x, by rw [cell_blk h.blk, List.getElem?_toArray, List.getElem?_map, hx]; rfl⟩
theorem NO.set {w W : World} {E X D b kd sl va c : Nat} {s : Ls} {ev : List ByteArray} (h : NO w E X D b kd sl va s c ev W) (i : Nat) (u : ByteArray) (he : Ever s (ev.set i u)) : NI w E X D b s c (ev.set i u) (W.setCell ⟨E, i, none⟩ (.string u)) := by
  have hk := h.lg.kept E (.inl rfl)
  refine ⟨h.lg.upd (F := fun z => z = E) ((Upd.refl _ _).setCell _ _ (.inl rfl)) (fun e => hk.2.1 e.symm) (fun e => hk.2.2 e.symm) (fun z hz => by subst hz; exact h.lo), ?_, he, h.lo⟩
  rw [blk_set h.blk i (.string u)]
  simp [List.map_set]
set_option maxRecDepth 20000 in
set_option maxHeartbeats 8000000 in
theorem slotsNever_walk (A : Option Addr) (l : List Mv) (nl C : Nat) (w : World) (hl : MovesAt w A nl C l) : Calls Try.prog 4 #[.slice A nl C] w fun e w' => e = .returned (.bool true) ∧ Below w.heap.size w w' := by
  have hn9 : nl ≤ 9223372036854775807 := Nat.le_trans hl.le hl.max
  have hC9 : C ≤ 9223372036854775807 := hl.max
  have hnC := hl.le
  obtain ⟨m, hmin, hmn, hm100⟩ : ∃ m : Nat, min (nl : Int) 100 = (m : Int) ∧ m ≤ nl ∧ m ≤ 100 := ⟨min nl 100, by omega, by omega, by omega⟩
  have hm0 : (0 : Int) ≤ (m : Int) := by omega
  have hmC : m ≤ C := by omega
  obtain ⟨l', hl'⟩ : ∃ l', l.take m = l' := ⟨_, rfl⟩
  have HL := Lib.hid (hl' ▸ hl.take m hmn)
  clear hl hl'
  go_enter Try.func4, Try.ntmps4
  go_wp2_with fail
  refine (lg_new w).mono ?_
  rintro e w1 ⟨D, b, rfl, h1, -⟩
  have H1 := Lib.hid h1
  clear h1
  go_wp2_with fail
  obtain ⟨W1, hW1⟩ : ∃ W1, w1.alloc (.cells ((List.replicate 32 (⟨#[]⟩ : ByteArray)).map Value.string).toArray 35) = W1 := ⟨_, rfl⟩
  have hb1 : Below w1.heap.size w1 W1 := by rw [← hW1]; exact (Below.refl _ _).alloc (Nat.le_refl _) _
  obtain ⟨E, hE⟩ : ∃ E, w1.heap.size = E := ⟨_, rfl⟩
  have k1 : W1.heap[E]? = some (.cells ((List.replicate 32 (⟨#[]⟩ : ByteArray)).map Value.string).toArray 35) := by rw [← hW1, ← hE]; exact blk_new _ _
  have H2 := Lib.hid (show NI w E E D b e0 0 (List.replicate 32 ⟨#[]⟩) W1 from ⟨H1.out.more hb1 (fun z hz => .inr (by rcases hz with hz | hz <;> subst hz <;> exact ⟨Nat.le_of_eq hE, lt_of_blk k1⟩)), k1, .empty, by rw [← hE]; exact H1.out.out.size⟩)
  simp only [List.replicate, List.map_cons, List.map_nil] at hW1
  rw [hW1, hE]
  clear hb1 k1 hW1 hE H1
  go_loopw [5, 6, 26] (fun bv uv iv wr => ∃ (k : Nat) (bs up : Int) (s : Ls) (ev : List ByteArray), k ≤ m ∧ iv = .int .i64 (k : Int) ∧ bv = .int .i64 bs ∧ uv = .int .i64 up ∧ s.base = bs ∧ s.upto = up ∧ NI w E E D b s k ev wr) (fun _ _ iv _ => m - (intOf iv).toNat)
  case atStart => exact ⟨0, 0, 0, e0, _, Nat.zero_le _, rfl, rfl, rfl, rfl, rfl, H2.out⟩
  case round =>
    obtain ⟨k, bs, up, s, ev, hk, rfl, rfl, rfl, hbs, hup, hni⟩ := hrel
    have hb0 : 0 ≤ bs := by rw [← hbs]; exact hni.lg.ok.b0
    have hbu : bs ≤ up := by rw [← hbs, ← hup]; exact hni.lg.ok.bu
    have hu4 : up ≤ 4096 := by rw [← hup]; exact Int.le_trans hni.lg.ok.ut hni.lg.ok.t4
    have HB := Lib.hid (And.intro hni (And.intro hbs hup))
    clear hni hbs hup
    by_cases hlt : k < m
    · have hkl : k < l'.length := by rw [HL.out.len]; exact hlt
      obtain ⟨mv, hmv⟩ : ∃ mv, l'[k]? = some mv := ⟨_, List.getElem?_eq_getElem hkl⟩
      obtain ⟨gb, go, rfl, c0, c1, c2⟩ := (HL.out.below HB.out.1.lg.out).cells k mv hmv
      obtain ⟨hs1, hs2, hs3⟩ := HL.out.small k mv hmv
      obtain ⟨kd, sl, va⟩ := mv
      simp only at c0 c1 c2 hs1 hs2 hs3
      have hki : (k : Int) < (m : Int) := by omega
      clear hmv hkl
      go_upto_region 7 with (fail)
      obtain ⟨X, hX⟩ : ∃ X, wr.heap.size = X := ⟨_, rfl⟩
      obtain ⟨W3, hW3⟩ : ∃ W3, wr.alloc (.cells #[.int .u8 (kd : Int), .int .u8 (sl : Int), .int .u8 (va : Int)] 37) = W3 := ⟨_, rfl⟩
      have hb3 : Below wr.heap.size wr W3 := by rw [← hW3]; exact (Below.refl _ _).alloc (Nat.le_refl _) _
      have k3 : W3.heap[X]? = some (.cells #[.int .u8 (kd : Int), .int .u8 (sl : Int), .int .u8 (va : Int)] 37) := by rw [← hW3, ← hX]; exact blk_new _ _
      have H3 := Lib.hid (And.intro (show NI w E X D b s k ev W3 from ⟨HB.out.1.lg.more hb3 (fun z hz => by
        rcases hz with hz | hz
        · exact .inl (.inl hz)
        · subst hz; exact .inr ⟨Nat.le_of_eq hX, lt_of_blk k3⟩), blk_below' HB.out.1.blk hb3, HB.out.1.ev, HB.out.1.lo⟩) k3)
      rw [hW3, hX]
      have x0 := cell_blk k3 0
      have x1 := cell_blk k3 1
      have x2 := cell_blk k3 2
      simp at x0 x1 x2
      have zX := lt_of_blk k3
      clear hb3 k3 hW3 hX c0 c1 c2
      obtain ⟨st, hst, hst32⟩ : ∃ st : Nat, (sl : Int) % 32 = (st : Int) ∧ st < 32 := ⟨sl % 32, by omega, by omega⟩
      obtain ⟨r, hr, hr8⟩ : ∃ r : Nat, (kd : Int) % 8 = (r : Int) ∧ r < 8 := ⟨kd % 8, by omega, by omega⟩
      have HR := Lib.hid (And.intro hst hr)
      clear hst hr
      obtain ⟨bf, hbf⟩ : ∃ bf, (s.f (st : Int)).getD ⟨#[]⟩ = bf := ⟨_, rfl⟩
      obtain ⟨hd, hhd⟩ : ∃ hd, (s.f (st : Int)).isSome = hd := ⟨_, rfl⟩
      have HG := Lib.hid (And.intro hbf hhd)
      clear hbf hhd
      go_upto_region 8 with (fail)
      rw [HR.out.1]
      go_wp2_with fail
      refine (inn_get H3.out.1.lg.inn (st : Int) (by unfold inI; omega) bf hd HG.out.1 HG.out.2).mono ?_
      rintro e w' ⟨rfl, rfl⟩
      go_upto_block 2 with (fail)
      rw [HR.out.2]
      go_cut [] from 43 to 109 (fun wx => ∃ (b2 uq : Int) (s2 : Ls) (ev2 : List ByteArray), 0 ≤ b2 ∧ bs ≤ b2 ∧ up ≤ uq ∧ b2 ≤ uq ∧ uq ≤ 4096 ∧ NI w E X D b s2 (k + 1) ev2 wx ∧ s2.base = b2 ∧ s2.upto = uq)
      case first =>
        obtain rfl | rfl | hr2 : r = 0 ∨ r = 1 ∨ 2 ≤ r := by omega
        · by_cases hle : (st : Int) ≤ up
          · by_cases hlb : bs < (st : Int)
            · have HE := Lib.hid (show fgE s (st : Int) = 0 ∧ fgT s (st : Int) = cutS s (st : Int) from by
                have h1 : fgE s (st : Int) = 0 := fgE_zero (by omega) (by omega) (by rw [HB.out.2.2]; omega)
                exact ⟨h1, fgT_ok h1 (by rw [HB.out.2.1]; omega)⟩)
              have hld : decide ((st : Int) ≤ up) = true := by simp; omega
              obtain ⟨s2, hs2⟩ : ∃ s2, cutS s (st : Int) = s2 := ⟨_, rfl⟩
              go_wp2_with fail
              refine (lg_forget_v H3.out.1.lg (st : Int) 0 s2 HE.out.1 (by rw [← hs2]; exact HE.out.2)).mono ?_
              rintro e w5 ⟨rfl, h5, hu5⟩
              have hb2 : s2.base = (st : Int) := by rw [← hs2]; rfl
              obtain ⟨uq, hu2⟩ : ∃ uq, s2.upto = uq := ⟨_, rfl⟩
              have huu : up ≤ uq := by rw [← hu2, ← hs2, ← HB.out.2.2]; exact cut_up s _
              have hbu2 : (st : Int) ≤ uq := by rw [← hu2, ← hb2]; exact h5.ok.bu
              have hu24 : uq ≤ 4096 := by rw [← hu2]; exact Int.le_trans h5.ok.ut h5.ok.t4
              have HN := Lib.hid (show NI w E X D b s2 (k + 1) ev w5 ∧ s2.base = (st : Int) ∧ s2.upto = uq from ⟨⟨h5.mono (Nat.le_succ _), hu5.blk H3.out.1.blk (fun f => f.2 (.inl rfl)), H3.out.1.ev.cut (by rw [hb2, HB.out.2.1]; omega) (fun j => by rw [hb2, ← hs2]; rfl), H3.out.1.lo⟩, hb2, hu2⟩)
              clear h5 hu5 hs2 hb2 hu2
              clear x0 x1 x2 zX
              go_wp2_with (go_at_call 28; refine (inn_base HN.out.1.lg.inn ((st : Int)) HN.out.2.1).mono ?_; rintro e w' ⟨rfl, rfl⟩)
              go_meet
              case rel => exact ⟨(st : Int), uq, s2, ev, by omega, by omega, by omega, by omega, by omega, HN.out⟩
            · have hE : fgE s (st : Int) = 0 := fgE_zero (by omega) (by omega) (by rw [HB.out.2.2]; omega)
              have hT : fgT s (st : Int) = s := fgT_at (by rw [HB.out.2.1]; omega)
              have HE := Lib.hid (And.intro hE hT)
              have hld : decide ((st : Int) ≤ up) = true := by simp; omega
              clear hE hT
              go_wp2_with fail
              refine (lg_forget_v H3.out.1.lg (st : Int) 0 s HE.out.1 HE.out.2).mono ?_
              rintro e w5 ⟨rfl, h5, hu5⟩
              have HN := Lib.hid (show NI w E X D b s (k + 1) ev w5 ∧ s.base = bs ∧ s.upto = up from ⟨⟨h5.mono (Nat.le_succ _), hu5.blk H3.out.1.blk (fun f => f.2 (.inl rfl)), H3.out.1.ev, H3.out.1.lo⟩, HB.out.2⟩)
              clear h5 hu5
              clear x0 x1 x2 zX
              go_wp2_with (go_at_call 28; refine (inn_base HN.out.1.lg.inn (bs) HN.out.2.1).mono ?_; rintro e w' ⟨rfl, rfl⟩)
              go_meet
              case rel => exact ⟨bs, up, s, ev, by omega, by omega, by omega, by omega, by omega, HN.out⟩
          · have hE : fgE s (st : Int) = 3 := by unfold fgE; rw [if_neg (by omega), if_pos (by rw [HB.out.2.2]; omega)]
            have hT : fgT s (st : Int) = s := by unfold fgT; rw [if_neg (by rw [hE]; exact fun h => absurd h.1 (by decide))]
            have HE := Lib.hid (And.intro hE hT)
            have hld : decide ((st : Int) ≤ up) = false := by simp; omega
            clear hE hT
            go_wp2_with fail
            refine (lg_forget_v H3.out.1.lg (st : Int) 3 s HE.out.1 HE.out.2).mono ?_
            rintro e w5 ⟨rfl, h5, hu5⟩
            have HN := Lib.hid (show NI w E X D b s (k + 1) ev w5 ∧ s.base = bs ∧ s.upto = up from ⟨⟨h5.mono (Nat.le_succ _), hu5.blk H3.out.1.blk (fun f => f.2 (.inl rfl)), H3.out.1.ev, H3.out.1.lo⟩, HB.out.2⟩)
            clear h5 hu5
            clear x0 x1 x2 zX
            go_wp2_with (go_at_call 28; refine (inn_base HN.out.1.lg.inn (bs) HN.out.2.1).mono ?_; rintro e w' ⟨rfl, rfl⟩)
            go_meet
            case rel => exact ⟨bs, up, s, ev, by omega, by omega, by omega, by omega, by omega, HN.out⟩
        · by_cases hle : up ≤ (st : Int)
          · have HE := Lib.hid (show jpE s (st : Int) = 0 ∧ jpT s (st : Int) = cutS s (st : Int) from by
              have h1 : jpE s (st : Int) = 0 := jpE_zero (by omega) (by omega) (by rw [HB.out.2.2]; omega)
              exact ⟨h1, jpT_ok h1⟩)
            have hld : decide (up ≤ (st : Int)) = true := by simp; omega
            obtain ⟨s2, hs2⟩ : ∃ s2, cutS s (st : Int) = s2 := ⟨_, rfl⟩
            go_wp2_with fail
            refine (lg_jump_v H3.out.1.lg (st : Int) 0 s2 HE.out.1 (by rw [← hs2]; exact HE.out.2)).mono ?_
            rintro e w5 ⟨rfl, h5, hu5⟩
            have hb2 : s2.base = (st : Int) := by rw [← hs2]; rfl
            obtain ⟨uq, hu2⟩ : ∃ uq, s2.upto = uq := ⟨_, rfl⟩
            have huu : up ≤ uq := by rw [← hu2, ← hs2, ← HB.out.2.2]; exact cut_up s _
            have hbu2 : (st : Int) ≤ uq := by rw [← hu2, ← hb2]; exact h5.ok.bu
            have hu24 : uq ≤ 4096 := by rw [← hu2]; exact Int.le_trans h5.ok.ut h5.ok.t4
            have HN := Lib.hid (show NI w E X D b s2 (k + 1) ev w5 ∧ s2.base = (st : Int) ∧ s2.upto = uq from ⟨⟨h5.mono (Nat.le_succ _), hu5.blk H3.out.1.blk (fun f => f.2 (.inl rfl)), H3.out.1.ev.cut (by rw [hb2, HB.out.2.1]; omega) (fun j => by rw [hb2, ← hs2]; rfl), H3.out.1.lo⟩, hb2, hu2⟩)
            clear h5 hu5 hs2 hb2 hu2
            clear x0 x1 x2 zX
            go_wp2_with (go_at_call 28; refine (inn_base HN.out.1.lg.inn ((st : Int)) HN.out.2.1).mono ?_; rintro e w' ⟨rfl, rfl⟩)
            go_meet
            case rel => exact ⟨(st : Int), uq, s2, ev, by omega, by omega, by omega, by omega, by omega, HN.out⟩
          · have hE : jpE s (st : Int) = 8 := by unfold jpE; rw [if_neg (by omega), if_pos (by rw [HB.out.2.2]; omega)]
            have hT : jpT s (st : Int) = s := by unfold jpT; rw [if_neg (by rw [hE]; decide)]
            have HE := Lib.hid (And.intro hE hT)
            have hld : decide (up ≤ (st : Int)) = false := by simp; omega
            clear hE hT
            go_wp2_with fail
            refine (lg_jump_v H3.out.1.lg (st : Int) 8 s HE.out.1 HE.out.2).mono ?_
            rintro e w5 ⟨rfl, h5, hu5⟩
            have HN := Lib.hid (show NI w E X D b s (k + 1) ev w5 ∧ s.base = bs ∧ s.upto = up from ⟨⟨h5.mono (Nat.le_succ _), hu5.blk H3.out.1.blk (fun f => f.2 (.inl rfl)), H3.out.1.ev, H3.out.1.lo⟩, HB.out.2⟩)
            clear h5 hu5
            clear x0 x1 x2 zX
            go_wp2_with (go_at_call 28; refine (inn_base HN.out.1.lg.inn (bs) HN.out.2.1).mono ?_; rintro e w' ⟨rfl, rfl⟩)
            go_meet
            case rel => exact ⟨bs, up, s, ev, by omega, by omega, by omega, by omega, by omega, HN.out⟩
        · have hr0 : ((r : Int) == 0) = false := by simp; omega
          have hr1 : ((r : Int) == 1) = false := by simp; omega
          have HM := Lib.hid (show NM w E X D b kd sl va s k ev W3 from ⟨H3.out.1, H3.out.2⟩)
          by_cases hsb : (st : Int) < bs
          · have HE := Lib.hid (show putE s (st : Int) (mvb va) = 8 ∧ putT s (st : Int) (mvb va) = s from by
              have h1 : putE s (st : Int) (mvb va) = 8 := by unfold putE; rw [if_neg (by omega), if_neg (by rw [mvb_size]; decide), if_pos (by rw [HB.out.2.1]; omega)]
              exact ⟨h1, putT_no (by rw [h1]; decide)⟩)
            go_wp2_with fail
            refine (mval33 kd sl va _ hs3).mono ?_
            rintro e wv1 ⟨rfl, hbv1⟩
            have HM := Lib.hid (HM.out.below hbv1)
            clear hbv1 x0 x1 x2 zX
            obtain ⟨x0, x1, x2, zX⟩ := HM.out.cells
            go_wp2_with fail
            refine (lg_put_v HM.out.ni.lg (by omega) (st : Int) (mvb va) (by rw [mvb_size]; decide) 8 s HE.out.1 HE.out.2).mono ?_
            rintro e w5 ⟨rfl, h5, hu5⟩
            have HN := Lib.hid (show NI w E X D b s (k + 1) ev w5 ∧ s.base = bs ∧ s.upto = up from ⟨⟨h5, hu5.blk HM.out.ni.blk (fun f => f.2 (.inl rfl)), HM.out.ni.ev, HM.out.ni.lo⟩, HB.out.2⟩)
            clear h5 hu5
            clear x0 x1 x2 zX
            go_wp2_with (go_at_call 28; refine (inn_base HN.out.1.lg.inn (bs) HN.out.2.1).mono ?_; rintro e w' ⟨rfl, rfl⟩)
            go_meet
            case rel => exact ⟨bs, up, s, ev, by omega, by omega, by omega, by omega, by omega, HN.out⟩
          · cases hd with
            | true =>
              have hfs : s.f (st : Int) = some bf := by
                cases e : s.f (st : Int) with
                | none => have := HG.out.2; rw [e] at this; cases this
                | some y => have := HG.out.1; rw [e] at this; exact congrArg some this
              by_cases hvv : bf = mvb va
              · have hve : (bf.toList == (mvb va).toList) = true := by rw [hvv]; simp
                have HE := Lib.hid (show putE s (st : Int) (mvb va) = 0 from putE_zero (by omega) (by omega) (by rw [mvb_size]; decide) (by rw [HB.out.2.1]; omega) (.inr (by rw [hfs, hvv])))
                obtain ⟨s2, hs2⟩ : ∃ s2, putT s (st : Int) (mvb va) = s2 := ⟨_, rfl⟩
                clear hvv hfs
                go_wp2_with fail
                refine (mval33 kd sl va _ hs3).mono ?_
                rintro e wv1 ⟨rfl, hbv1⟩
                have HM := Lib.hid (HM.out.below hbv1)
                clear hbv1 x0 x1 x2 zX
                obtain ⟨x0, x1, x2, zX⟩ := HM.out.cells
                go_wp2_with fail
                refine (mval33 kd sl va _ hs3).mono ?_
                rintro e wv2 ⟨rfl, hbv2⟩
                have HM := Lib.hid (HM.out.below hbv2)
                clear hbv2 x0 x1 x2 zX
                obtain ⟨x0, x1, x2, zX⟩ := HM.out.cells
                go_wp2_with fail
                refine (lg_put_v HM.out.ni.lg (by omega) (st : Int) (mvb va) (by rw [mvb_size]; decide) 0 s2 HE.out hs2).mono ?_
                rintro e w5 ⟨rfl, h5, hu5⟩
                have HO := Lib.hid (show NO w E X D b kd sl va s2 (k + 1) ev w5 from ⟨h5, hu5.blk HM.out.ni.blk (fun f => f.2 (.inl rfl)), hu5.blk HM.out.box (fun f => f.2 (.inr rfl)), HM.out.ni.ev.len, HM.out.ni.lo⟩)
                obtain ⟨p1, p2, -⟩ := putT_ok HE.out
                have hpu := put_up HM.out.ni.lg.ok HE.out
                rw [hs2] at p1 p2 hpu
                have hev := HM.out.ni.ev.put st hst32 (mvb va) p2 p1
                rw [HB.out.2.1] at p2
                rw [HB.out.2.2] at hpu
                obtain ⟨uq, hu2⟩ : ∃ uq, s2.upto = uq := ⟨_, rfl⟩
                rw [hu2] at hpu
                have hbu2 : bs ≤ uq := by omega
                have hu24 : uq ≤ 4096 := by rw [← hu2]; exact Int.le_trans h5.ok.ut h5.ok.t4
                have HQ := Lib.hid (And.intro hev (And.intro p2 hu2))
                clear h5 hu5 hs2 p1 p2 hev hu2 x0 x1 x2 zX
                obtain ⟨x0, x1, x2, zX⟩ := HO.out.cells
                go_wp2_with fail
                refine (mval33 kd sl va _ hs3).mono ?_
                rintro e w6 ⟨rfl, hb6⟩
                have HO := Lib.hid (HO.out.below hb6)
                clear hb6 x0 x1 x2 zX
                obtain ⟨old, hold⟩ := HO.out.at st hst32
                have hfr := free_blk HO.out.blk st
                have zE := lt_of_blk HO.out.blk
                obtain ⟨x0, x1, x2, zX⟩ := HO.out.cells
                have hsti : (st : Int) < 32 := by omega
                go_upto_region 27 with (fail)
                have HN := Lib.hid (show NI w E X D b s2 (k + 1) (ev.set st (mvb va)) _ ∧ s2.base = bs ∧ s2.upto = uq from ⟨HO.out.set st (mvb va) HQ.out.1, HQ.out.2⟩)
                obtain ⟨w7, hw7⟩ : ∃ w7, w6.setCell ⟨E, st, none⟩ (.string (mvb va)) = w7 := ⟨_, rfl⟩
                rw [hw7] at HN
                rw [hw7]
                clear hw7 hold hfr zE
                clear x0 x1 x2 zX
                go_wp2_with (go_at_call 28; refine (inn_base HN.out.1.lg.inn (bs) HN.out.2.1).mono ?_; rintro e w' ⟨rfl, rfl⟩)
                go_meet
                case rel => exact ⟨bs, uq, s2, (ev.set st (mvb va)), by omega, by omega, by omega, by omega, by omega, HN.out⟩
              · have hve : (bf.toList == (mvb va).toList) = false := by
                  rw [beq_eq_false_iff_ne]
                  intro e
                  rw [ByteArray.toList_eq, ByteArray.toList_eq] at e
                  exact hvv (bytes_eq e)
                have HE := Lib.hid (show putE s (st : Int) (mvb va) = 9 ∧ putT s (st : Int) (mvb va) = s from by
                  have h1 : putE s (st : Int) (mvb va) = 9 := by unfold putE; rw [if_neg (by omega), if_neg (by rw [mvb_size]; decide), if_neg (by rw [HB.out.2.1]; omega), if_pos ⟨by rw [hfs]; rfl, by rw [hfs]; exact fun e => hvv (Option.some.inj e)⟩]
                  exact ⟨h1, putT_no (by rw [h1]; decide)⟩)
                clear hvv hfs
                go_wp2_with fail
                refine (mval33 kd sl va _ hs3).mono ?_
                rintro e wv1 ⟨rfl, hbv1⟩
                have HM := Lib.hid (HM.out.below hbv1)
                clear hbv1 x0 x1 x2 zX
                obtain ⟨x0, x1, x2, zX⟩ := HM.out.cells
                go_wp2_with fail
                refine (mval33 kd sl va _ hs3).mono ?_
                rintro e wv2 ⟨rfl, hbv2⟩
                have HM := Lib.hid (HM.out.below hbv2)
                clear hbv2 x0 x1 x2 zX
                obtain ⟨x0, x1, x2, zX⟩ := HM.out.cells
                go_wp2_with fail
                refine (lg_put_v HM.out.ni.lg (by omega) (st : Int) (mvb va) (by rw [mvb_size]; decide) 9 s HE.out.1 HE.out.2).mono ?_
                rintro e w5 ⟨rfl, h5, hu5⟩
                have HN := Lib.hid (show NI w E X D b s (k + 1) ev w5 ∧ s.base = bs ∧ s.upto = up from ⟨⟨h5, hu5.blk HM.out.ni.blk (fun f => f.2 (.inl rfl)), HM.out.ni.ev, HM.out.ni.lo⟩, HB.out.2⟩)
                clear h5 hu5
                clear x0 x1 x2 zX
                go_wp2_with (go_at_call 28; refine (inn_base HN.out.1.lg.inn (bs) HN.out.2.1).mono ?_; rintro e w' ⟨rfl, rfl⟩)
                go_meet
                case rel => exact ⟨bs, up, s, ev, by omega, by omega, by omega, by omega, by omega, HN.out⟩
            | false =>
              have hfs : s.f (st : Int) = none := by
                cases e : s.f (st : Int) with
                | none => rfl
                | some y => have := HG.out.2; rw [e] at this; cases this
              have HE := Lib.hid (show putE s (st : Int) (mvb va) = 0 from putE_zero (by omega) (by omega) (by rw [mvb_size]; decide) (by rw [HB.out.2.1]; omega) (.inl hfs))
              obtain ⟨s2, hs2⟩ : ∃ s2, putT s (st : Int) (mvb va) = s2 := ⟨_, rfl⟩
              clear hfs
              go_wp2_with fail
              refine (mval33 kd sl va _ hs3).mono ?_
              rintro e wv1 ⟨rfl, hbv1⟩
              have HM := Lib.hid (HM.out.below hbv1)
              clear hbv1 x0 x1 x2 zX
              obtain ⟨x0, x1, x2, zX⟩ := HM.out.cells
              go_wp2_with fail
              refine (lg_put_v HM.out.ni.lg (by omega) (st : Int) (mvb va) (by rw [mvb_size]; decide) 0 s2 HE.out hs2).mono ?_
              rintro e w5 ⟨rfl, h5, hu5⟩
              have HO := Lib.hid (show NO w E X D b kd sl va s2 (k + 1) ev w5 from ⟨h5, hu5.blk HM.out.ni.blk (fun f => f.2 (.inl rfl)), hu5.blk HM.out.box (fun f => f.2 (.inr rfl)), HM.out.ni.ev.len, HM.out.ni.lo⟩)
              obtain ⟨p1, p2, -⟩ := putT_ok HE.out
              have hpu := put_up HM.out.ni.lg.ok HE.out
              rw [hs2] at p1 p2 hpu
              have hev := HM.out.ni.ev.put st hst32 (mvb va) p2 p1
              rw [HB.out.2.1] at p2
              rw [HB.out.2.2] at hpu
              obtain ⟨uq, hu2⟩ : ∃ uq, s2.upto = uq := ⟨_, rfl⟩
              rw [hu2] at hpu
              have hbu2 : bs ≤ uq := by omega
              have hu24 : uq ≤ 4096 := by rw [← hu2]; exact Int.le_trans h5.ok.ut h5.ok.t4
              have HQ := Lib.hid (And.intro hev (And.intro p2 hu2))
              clear h5 hu5 hs2 p1 p2 hev hu2 x0 x1 x2 zX
              obtain ⟨x0, x1, x2, zX⟩ := HO.out.cells
              go_wp2_with fail
              refine (mval33 kd sl va _ hs3).mono ?_
              rintro e w6 ⟨rfl, hb6⟩
              have HO := Lib.hid (HO.out.below hb6)
              clear hb6 x0 x1 x2 zX
              obtain ⟨old, hold⟩ := HO.out.at st hst32
              have hfr := free_blk HO.out.blk st
              have zE := lt_of_blk HO.out.blk
              obtain ⟨x0, x1, x2, zX⟩ := HO.out.cells
              have hsti : (st : Int) < 32 := by omega
              go_upto_region 27 with (fail)
              have HN := Lib.hid (show NI w E X D b s2 (k + 1) (ev.set st (mvb va)) _ ∧ s2.base = bs ∧ s2.upto = uq from ⟨HO.out.set st (mvb va) HQ.out.1, HQ.out.2⟩)
              obtain ⟨w7, hw7⟩ : ∃ w7, w6.setCell ⟨E, st, none⟩ (.string (mvb va)) = w7 := ⟨_, rfl⟩
              rw [hw7] at HN
              rw [hw7]
              clear hw7 hold hfr zE
              clear x0 x1 x2 zX
              go_wp2_with (go_at_call 28; refine (inn_base HN.out.1.lg.inn (bs) HN.out.2.1).mono ?_; rintro e w' ⟨rfl, rfl⟩)
              go_meet
              case rel => exact ⟨bs, uq, s2, (ev.set st (mvb va)), by omega, by omega, by omega, by omega, by omega, HN.out⟩
      case rest =>
        obtain ⟨bq, uq, s2, ev2, hq0, hq1, hq2, hq3, hq4, hq5⟩ := hcut
        have HN := Lib.hid hq5
        clear hq5
        have hub : decide (uq < bq) = false := by simp; omega
        clear x0 x1 x2 zX H3 HG HR
        go_wp2_with (first
          | (go_at_call 28; refine (inn_base HN.out.1.lg.inn (bq) HN.out.2.1).mono ?_; rintro e w' ⟨rfl, rfl⟩)
          | (go_at_call 24; refine (inn_upto HN.out.1.lg.inn (uq) HN.out.2.2).mono ?_; rintro e w' ⟨rfl, rfl⟩)
          | (with_reducible refine wpList_load_mid rfl 35 _ rfl E 0 rfl _ _ (HN.out.1.range) Try.underlying35 rfl (HN.out.1.size) ?_))
        go_loopw [132] (fun iv wr => ∃ j : Nat, j ≤ 32 ∧ iv = .int .i64 (j : Int) ∧ NI w E X D b s2 (k + 1) ev2 wr) (fun iv _ => 32 - (intOf iv).toNat)
        case atStart => exact ⟨0, Nat.zero_le _, rfl, HN.out.1⟩
        case round =>
          obtain ⟨j, hj, rfl, hnj⟩ := hrel
          have HJ := Lib.hid hnj
          clear hnj
          by_cases hj32 : j < 32
          · obtain ⟨x, hx⟩ : ∃ x, (ev2)[j]? = some x := ⟨_, List.getElem?_eq_getElem (by rw [HN.out.1.ev.len]; exact hj32)⟩
            have hidx := fun w => idx35 ((ev2).map Value.string).toArray j (.string x) (by rw [List.getElem?_toArray, List.getElem?_map, hx]; rfl) hj32 w
            cases hf : (s2).f (j : Int) with
            | some u =>
              have hux := HN.out.1.ev.yes j u hj32 hf
              rw [hx] at hux
              obtain rfl := Option.some.inj hux
              have hbj := (HN.out.1.lg.ok.dom (j : Int) (by rw [hf]; rfl)).1
              rw [HN.out.2.1] at hbj
              have hbj2 : decide ((j : Int) < bq) = false := by simp; omega
              have HF := Lib.hid (show ((s2).f (j : Int)).getD ⟨#[]⟩ = x ∧ ((s2).f (j : Int)).isSome = true by rw [hf]; exact ⟨rfl, rfl⟩)
              have hxx : (x.toList == x.toList) = true := by simp
              clear hf hux hx
              go_wp2_with (go_at_call 32; refine (inn_get HJ.out.lg.inn (j : Int) (by unfold inI; omega) x true HF.out.1 HF.out.2).mono ?_; rintro e w' ⟨rfl, rfl⟩)
              go_roundw
              case rel => exact ⟨j + 1, hj32, by go_num, HJ.out⟩
              case measure => simp [intOf] <;> omega
            | none =>
              have hno := HN.out.1.ev.no j hj32 hf
              rw [hx] at hno
              have HF := Lib.hid (show ((s2).f (j : Int)).getD ⟨#[]⟩ = (⟨#[]⟩ : ByteArray) ∧ ((s2).f (j : Int)).isSome = false by rw [hf]; exact ⟨rfl, rfl⟩)
              by_cases hxe : x = ⟨#[]⟩
              · subst hxe
                clear hf hno hx
                go_wp2_with (go_at_call 32; refine (inn_get HJ.out.lg.inn (j : Int) (by unfold inI; omega) ⟨#[]⟩ false HF.out.1 HF.out.2).mono ?_; rintro e w' ⟨rfl, rfl⟩)
                go_roundw
                case rel => exact ⟨j + 1, hj32, by go_num, HJ.out⟩
                case measure => simp [intOf] <;> omega
              · have hjb : (j : Int) < bq := by
                  rcases hno with h | h
                  · exact absurd (Option.some.inj h) hxe
                  · rw [← HN.out.2.1]; exact h
                have hjb2 : decide (bq ≤ (j : Int)) = false := by simp; omega
                have hxl : x.toList ≠ [] := by
                  intro e
                  rw [ByteArray.toList_eq] at e
                  exact hxe (bytes_eq (by rw [e]))
                clear hf hno hx hxe
                go_wp2_with (go_at_call 32; refine (inn_get HJ.out.lg.inn (j : Int) (by unfold inI; omega) ⟨#[]⟩ false HF.out.1 HF.out.2).mono ?_; rintro e w' ⟨rfl, rfl⟩)
                go_roundw
                case rel => exact ⟨j + 1, hj32, by go_num, HJ.out⟩
                case measure => simp [intOf] <;> omega
          · obtain rfl : j = 32 := by omega
            have H9 := Lib.hid (show LG (fun z => z = E ∨ z = E) w D b s2 (k + 1) wr from HJ.out.lg.less (fun z hz => by rcases hz with hz | hz <;> exact .inl hz))
            go_wp2
            go_roundw
            case rel => first | exact ⟨k + 1, bq, uq, s2, ev2, hlt, by go_num, rfl, rfl, HN.out.2.1, HN.out.2.2, H9.out, HJ.out.blk, HJ.out.ev, HJ.out.lo⟩ | ((repeat apply Exists.intro); exact ⟨⟨k + 1, bq, uq, s2, ev2, hlt, by go_num, rfl, rfl, HN.out.2.1, HN.out.2.2, H9.out, HJ.out.blk, HJ.out.ev, HJ.out.lo⟩, rfl⟩)
            case measure => simp [intOf] <;> omega
    · obtain rfl : k = m := by omega
      go_wp2_with (go_at_call 31; refine (works15_any wr).mono ?_; rintro e w7 ⟨rfl, hb7⟩; have H7 := Lib.hid (belowStep HB.out.1.lg.out hb7); clear hb7)
      go_ret
      exact ⟨rfl, H7.out⟩
end Go.Proofs.Ytjkgbofeogaeoaa
