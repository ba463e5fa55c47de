/- The document's disks in memory and the contracts of all that is called on them. -/
import Derived.Test.YtconcmjmdhdgjaaDoorDCopy
import Derived.Test.YtconcmjmdhdgjaaDoorRefAll
import Derived.Test.YtconcmjmdhdgjaaDoorSame
import Derived.Deep.RegionLaw
import Derived.Deep.RegionHeld3
namespace Go.Proofs.YtconcmjmdhdgjaaDoor
open Go.RowKit

/-- A disk of the document that lies in memory: block R, its bytes, its state. -/
structure RDAt (w : World) (B : Nat) (R : Nat) (vb vs : Value) (s : Sp) : Prop where
  ge : B ≤ R
  blk : w.heap[R]? = some (.cells #[.bool true, vb, .int .i64 (spos s.cs s.k : Int), vs, .bool s.has] 102)
  b : OwnB w B vb (joinB s.cs)
  st : OwnB w B vs s.st
def rfoot (R : Nat) (vb vs : Value) (x : Nat) : Prop := x = R ∨ vb.ownBlock = some x ∨ vs.ownBlock = some x
section
variable {w w' : World} {B R : Nat} {vb vs : Value} {s : Sp} {m : Nat}
theorem RDAt.foot_lt (d : RDAt w B R vb vs s) {x : Nat} (h : rfoot R vb vs x) : B ≤ x ∧ x < w.heap.size := by
  rcases h with rfl | h | h
  · exact ⟨d.ge, lt_of_blk d.blk⟩
  · exact own_ge d.b h
  · exact own_ge d.st h
theorem RDAt.upd {F : Nat → Prop} (d : RDAt w B R vb vs s) (hU : Upd F w w') (hF : ∀ x, rfoot R vb vs x → ¬ F x) : RDAt w' B R vb vs s :=
  ⟨d.ge, hU.blk d.blk (hF R (.inl rfl)), own_upd d.b hU (fun x hx => hF x (.inr (.inl hx))), own_upd d.st hU (fun x hx => hF x (.inr (.inr hx)))⟩
theorem RDAt.below (d : RDAt w B R vb vs s) (hb : Below w.heap.size w w') : RDAt w' B R vb vs s := d.upd (F := fun _ => False) (.of_below hb) (fun _ _ f => f)
theorem own_kind {v : Value} {l : List UInt8} {b : Nat} (h : OwnB w B v l) (hb : v.ownBlock = some b) : ∃ cur, w.heap[b]? = some (.cells cur 5) := RowB.kind (.inl h) hb
theorem own_not {v : Value} {l : List UInt8} {b : Nat} {cs : Array Value} {t : TypeId} (h : OwnB w B v l) (hk : w.heap[b]? = some (.cells cs t)) (ht : t ≠ 5) : v.ownBlock ≠ some b := fun e => by
  obtain ⟨cur, hc⟩ := own_kind h e
  rw [hk] at hc; cases hc; exact ht rfl
theorem RDAt.mono {B' : Nat} (d : RDAt w B R vb vs s) (hB : B' ≤ B) : RDAt w B' R vb vs s := ⟨Nat.le_trans hB d.ge, d.blk, d.b.mono hB, d.st.mono hB⟩
theorem Sp.Fits.bytes (h : s.Fits m) : (joinB s.cs).length ≤ 108 * m := Nat.le_trans (joinB_most s.cs h.cont) (Nat.mul_le_mul_left _ h.len)
/-- What a call on the document's disk leaves. -/
def RDTo (w : World) (B R : Nat) (vb vs : Value) (r : Ending) (s : Sp) (e : Ending) (w' : World) : Prop :=
  e = r ∧ ∃ vb' vs', RDAt w' B R vb' vs' s ∧ Upd (fun x => x = R) w w' ∧ ∀ x, rfoot R vb' vs' x → rfoot R vb vs x ∨ w.heap.size ≤ x
theorem RDAt.stay (d : RDAt w B R vb vs s) (hb : Below w.heap.size w w') (r : Ending) : RDTo w B R vb vs r s r w' := ⟨rfl, vb, vs, d.below hb, .of_below hb, fun _ h => .inl h⟩

theorem rd_new (w : World) : Calls Tryd.prog 51 #[] w fun e w' => e = .returned (.pointer (some ⟨w.heap.size, 0, none⟩)) ∧ RDAt w' w.heap.size w.heap.size (.slice none 0 0) (.slice none 0 0) Sp.new ∧ Below w.heap.size w w' := by
  go_enter Tryd.func51, Tryd.ntmps51
  go_wp2
  go_ret
  exact ⟨rfl, ⟨Nat.le_refl _, blk_new _ _, OwnB.nil _ _, OwnB.nil _ _⟩, by go_grown⟩
theorem rd_valid (d : RDAt w B R vb vs s) : Calls Tryd.prog 80 #[.pointer (some ⟨R, 0, none⟩)] w fun e w' => e = .returned (.bool true) ∧ w = w' := by
  have c0 := cell_blk d.blk 0
  have zR := lt_of_blk d.blk
  simp at c0
  clear d
  go_enter Tryd.func80, Tryd.ntmps80
  go_wp2
  go_ret
  exact ⟨rfl, rfl⟩
theorem rd_len (d : RDAt w B R vb vs s) : Calls Tryd.prog 59 #[.pointer (some ⟨R, 0, none⟩)] w fun e w' => e = .returned (.int .i64 ((joinB s.cs).length : Int)) ∧ w = w' := by
  have HV := Lib.hid (rd_valid d)
  have c1 := cell_blk d.blk 1
  have zR := lt_of_blk d.blk
  obtain ⟨A, C, hv, -⟩ := d.b.any
  rw [hv] at c1
  simp at c1
  clear d hv
  go_enter Tryd.func59, Tryd.ntmps59
  go_wp2_with (go_at_call 80; refine HV.out.mono ?_; rintro e w' ⟨rfl, rfl⟩)
  go_ret
  exact ⟨rfl, rfl⟩
theorem rd_safe (d : RDAt w B R vb vs s) : Calls Tryd.prog 60 #[.pointer (some ⟨R, 0, none⟩)] w fun e w' => e = .returned (.int .i64 (spos s.cs s.k : Int)) ∧ w = w' := by
  have HV := Lib.hid (rd_valid d)
  have c2 := cell_blk d.blk 2
  have zR := lt_of_blk d.blk
  simp at c2
  clear d
  go_enter Tryd.func60, Tryd.ntmps60
  go_wp2_with (go_at_call 80; refine HV.out.mono ?_; rintro e w' ⟨rfl, rfl⟩)
  go_ret
  exact ⟨rfl, rfl⟩
theorem rd_sync (d : RDAt w B R vb vs s) : Calls Tryd.prog 53 #[.pointer (some ⟨R, 0, none⟩)] w (RDTo w B R vb vs (.returned (.tuple #[])) s.sync) := by
  have HV := Lib.hid (rd_valid d)
  have c1 := cell_blk d.blk 1
  have c2 := cell_blk d.blk 2
  have f2 := free_blk d.blk 2
  have zR := lt_of_blk d.blk
  obtain ⟨A, C, hv, -⟩ := d.b.any
  rw [hv] at c1
  simp at c1 c2
  have HD := Lib.hid d
  clear d hv
  go_enter Tryd.func53, Tryd.ntmps53
  go_wp2_with (go_at_call 80; refine HV.out.mono ?_; rintro e w' ⟨rfl, rfl⟩)
  go_end0
  have d := HD.out
  have hU : Upd (fun x => x = R) w (w.setCell ⟨R, 2, none⟩ (.int .i64 ((joinB s.cs).length : Int))) := (Upd.refl _ w).setCell _ _ (.inl rfl)
  refine ⟨rfl, vb, vs, ⟨d.ge, ?_, own_upd d.b hU (fun x hx e => own_not d.b d.blk (by decide) (e ▸ hx)), own_upd d.st hU (fun x hx e => own_not d.st d.blk (by decide) (e ▸ hx))⟩, hU, fun _ h => .inl h⟩
  have h := blk_set d.blk 2 (.int .i64 ((joinB s.cs).length : Int))
  have e : spos s.sync.cs s.sync.k = (joinB s.cs).length := spos_all _ _ (Nat.le_refl _)
  rw [e]
  simpa [Sp.sync] using h
set_option maxHeartbeats 1000000 in
theorem rd_snap (d : RDAt w B R vb vs s) (hm : s.Fits m) : Calls Tryd.prog 58 #[.pointer (some ⟨R, 0, none⟩)] w fun e w' => ∃ v, e = .returned (.tuple #[v, .bool s.has]) ∧ OwnB w' w.heap.size v (snapL s.st s.has) ∧ Below w.heap.size w w' := by
  have HV := Lib.hid (rd_valid d)
  have c3 := cell_blk d.blk 3
  have c4 := cell_blk d.blk 4
  have zR := lt_of_blk d.blk
  obtain ⟨A, C, hv, -, -, hnil, hby⟩ := d.st.any
  have hst := hm.st
  obtain ⟨n, hn⟩ : ∃ n, s.st.length = n := ⟨_, rfl⟩
  obtain ⟨q, hq⟩ : ∃ q, s.has = q := ⟨_, rfl⟩
  obtain ⟨t, ht⟩ : ∃ t, s.st = t := ⟨_, rfl⟩
  rw [hv, hn] at c3
  rw [hq] at c4
  simp at c3 c4
  rw [ht] at hby
  have HB := Lib.hid (And.intro (hby.below ((Below.refl _ w).alloc (Nat.le_refl _) (.cells #[] 5))) (And.intro hnil (show t.length = n by rw [← ht]; exact hn)))
  rw [hq, ht]
  rw [hn] at hst
  clear d hv hn hq ht hby hnil hm
  cases q
  · go_enter Tryd.func58, Tryd.ntmps58
    go_wp2_with (go_at_call 80; refine HV.out.mono ?_; rintro e w' ⟨rfl, rfl⟩)
    go_ret2
    exact ⟨_, rfl, OwnB.nil _ _, Below.refl _ _⟩
  · go_enter Tryd.func58, Tryd.ntmps58
    go_wp2_with (first
      | (go_at_call 80; refine HV.out.mono ?_; rintro e w' ⟨rfl, rfl⟩)
      | (at_builtin
         refine wpList_append_any rfl _ _ rfl w.heap.size (.slice (some ⟨w.heap.size, 0, none⟩) 0 0) [] t rfl (own_lit w _ (Nat.le_refl _)) A n C rfl HB.out.2.2 HB.out.1 HB.out.2.1 (by have := HB.out.2.2; simp; omega) (by simp) ?_
         intro v1 w1 hown1 hg1 _ _
         have H1 := Lib.hid (And.intro hown1 hg1)
         clear hown1 hg1))
    go_ret2
    exact ⟨v1, rfl, by simpa [snapL] using H1.out.1, ((Below.refl _ w).alloc (Nat.le_refl _) _).grown H1.out.2 (by simp) (fun k hk => by simp [Value.ownBlock] at hk; omega)⟩
theorem rmake_long9 (a : Option Addr) (n cap : Nat) (w : World) (h : 65536 < n) (hm : n ≤ 9223372036854775807) :
    Calls Tryd.prog 27 #[.slice a n cap] w fun e w' => e = .returned (.tuple #[.slice none 0 0, .int .i64 11]) ∧ w = w' := by
  go_enter Tryd.func27, Tryd.ntmps27
  go_wp2
  go_ret2
  exact ⟨rfl, rfl⟩
set_option maxHeartbeats 2000000 in
theorem rd_append (d : RDAt w B R vb vs s) (hB : B ≤ w.heap.size) (hm : s.Fits m) (hm2 : m ≤ 1000) (a : Option Addr) (c : List UInt8) (n cap : Nat) (r : Int) (hr : errN c = r) (hn : c.length = n) (hc : OkC c) (hmx : n ≤ 9223372036854775807) (hb : BytesAt w a c) (hnc : a = none → cap = 0) :
    Calls Tryd.prog 52 #[.pointer (some ⟨R, 0, none⟩), .slice a n cap] w (RDTo w B R vb vs (.returned (.int .i64 r)) (s.app c)) := by
  have HV := Lib.hid (rd_valid d)
  by_cases hl : 65536 < n
  · have e1 : r = 11 := by rw [← hr]; unfold errN; rw [if_pos (by omega)]
    have e2 : s.app c = s := by unfold Sp.app; rw [if_pos (by omega)]
    rw [e1, e2]
    have HD := Lib.hid d
    clear d hm hr hn hc hb hnc e1 e2
    go_enter Tryd.func52, Tryd.ntmps52
    go_wp2_with (first
      | (go_at_call 80; refine HV.out.mono ?_; rintro e w' ⟨rfl, rfl⟩)
      | (go_at_call 27; refine (rmake_long9 a n cap _ hl hmx).mono ?_; rintro e w' ⟨rfl, rfl⟩))
    go_ret
    exact HD.out.stay (Below.refl _ _) _
  · have e1 : r = 0 := by rw [← hr]; unfold errN; rw [if_neg (by omega)]
    have e2 : s.app c = { s with cs := s.cs ++ [c] } := by unfold Sp.app; rw [if_neg (by omega)]
    rw [e1, e2]
    have hc100 : n ≤ 100 := by rcases hc with hc | hc <;> omega
    have hmk := rmake_all a c n cap w hn (by omega) hb hnc
    unfold MadeTo at hmk
    rw [show mkE c = 0 by unfold mkE; rw [if_neg (by omega)], show mkB c = recB c by unfold mkB; rw [if_neg (by omega)]] at hmk
    obtain ⟨A, C, hv, hC1, hC2, hnil, -⟩ := d.b.any
    obtain ⟨L, hL⟩ : ∃ L, (joinB s.cs).length = L := ⟨_, rfl⟩
    have hbytes := hm.bytes
    rw [hL] at hv hC1 hbytes
    have HM := Lib.hid hmk
    have HD := Lib.hid (And.intro d (And.intro hv (And.intro hL (And.intro hnil (And.intro hn hm.safe)))))
    clear d hm hr hn hc hb hnc e1 e2 hmk hv hL hnil hC2
    go_enter Tryd.func52, Tryd.ntmps52
    go_wp2_with (first
      | (go_at_call 80; refine HV.out.mono ?_; rintro e w' ⟨rfl, rfl⟩)
      | (go_at_call 27
         refine HM.out.mono ?_
         rintro e w1 ⟨v1, rfl, ho1, hb1⟩
         obtain ⟨A1, C1, e1, -, -, hn1, hy1⟩ := ho1.any
         rw [recB_len, HD.out.2.2.2.2.1] at e1
         subst e1
         have k1 := blk_below' HD.out.1.blk hb1
         have c1 := cell_blk k1 1
         have f1 := free_blk k1 1
         have zR := lt_of_blk k1
         rw [HD.out.2.1] at c1
         simp at c1
         have H1 := Lib.hid (And.intro hb1 (And.intro hy1 (And.intro hn1 (HD.out.1.b.any))))
         clear ho1 hb1 hy1 hn1 k1)
      | (at_builtin
         refine wpList_append_any rfl _ _ rfl w1.heap.size v2 (joinB s.cs) (recB c) rfl H2.out.1 A1 (8 + n) C1 rfl (by rw [recB_len, HD.out.2.2.2.2.1]) (H1.out.2.1.below H2.out.2) H1.out.2.2.1 (by rw [recB_len, HD.out.2.2.2.2.1, HD.out.2.2.1]; omega) H2.out.2.size ?_
         intro v3 w3 hown3 hg3 _ _
         obtain ⟨A3, C3, hv3, -⟩ := hown3.any
         obtain ⟨n3, hn3⟩ : ∃ n3, (joinB s.cs ++ recB c).length = n3 := ⟨_, rfl⟩
         rw [hn3] at hv3
         subst hv3
         have hb3 : Below w1.heap.size w1 w3 := H2.out.2.grown hg3 H2.out.2.size (fun k hk => (own_ge H2.out.1 hk).1)
         have k3 := blk_below' (blk_below' HD.out.1.blk H1.out.1) hb3
         have g1 := cell_blk k3 1
         have gf1 := free_blk k3 1
         have zR3 := lt_of_blk k3
         rw [HD.out.2.1] at g1
         simp at g1
         have H3 := Lib.hid (And.intro hown3 hb3)
         clear hown3 hg3 hb3 k3 hn3)
      | (at_builtin
         refine wpList_append_any rfl _ _ rfl w1.heap.size (.slice (some ⟨w1.heap.size, 0, none⟩) 0 0) [] (joinB s.cs) rfl (own_lit w1 _ (Nat.le_refl _)) A L C rfl HD.out.2.2.1 (((HD.out.1.below H1.out.1).below ((Below.refl _ w1).alloc (Nat.le_refl _) (.cells #[] 5))).b |> fun h => by rw [HD.out.2.1] at h; exact h.bytes') HD.out.2.2.2.1 (by rw [HD.out.2.2.1]; simp; omega) (by simp) ?_
         intro v2 w2 hown2 hg2 _ _
         have hb2 : Below w1.heap.size w1 w2 := ((Below.refl _ w1).alloc (Nat.le_refl _) _).grown hg2 (by simp) (fun k hk => by simp [Value.ownBlock] at hk; omega)
         have k2 := blk_below' (blk_below' HD.out.1.blk H1.out.1) hb2
         have g1 := cell_blk k2 1
         have gf1 := free_blk k2 1
         have zR2 := lt_of_blk k2
         rw [HD.out.2.1] at g1
         simp at g1
         have H2 := Lib.hid (And.intro (show OwnB w2 w1.heap.size v2 (joinB s.cs) by simpa using hown2) hb2)
         clear hown2 hg2 hb2 k2 c1 f1))
    go_ret
    have d := HD.out.1
    have hb3 := belowStep H1.out.1 H3.out.2
    have d3 := d.below hb3
    have hz := H1.out.1.size
    have hU : Upd (fun x => x = R) w (w3.setCell ⟨R, 1, none⟩ (.slice A3 n3 C3)) := (Upd.of_below hb3).setCell _ _ (.inl rfl)
    have hU3 : Upd (fun x => x = R) w3 (w3.setCell ⟨R, 1, none⟩ (.slice A3 n3 C3)) := (Upd.refl _ w3).setCell _ _ (.inl rfl)
    refine ⟨rfl, .slice A3 n3 C3, vs, ⟨d.ge, ?_, ?_, own_upd d3.st hU3 (fun x hx e => own_not d3.st d3.blk (by decide) (e ▸ hx))⟩, hU, ?_⟩
    · have h := blk_set d3.blk 1 (.slice A3 n3 C3)
      rw [show spos (s.cs ++ [c]) s.k = spos s.cs s.k from spos_snoc _ _ _ HD.out.2.2.2.2.2]
      simpa using h
    · have h := (own_upd H3.out.1 hU3 (fun x hx e => own_not H3.out.1 d3.blk (by decide) (e ▸ hx))).mono (Nat.le_trans hB hz)
      have e : joinB (s.cs ++ [c]) = joinB s.cs ++ recB c := by rw [join_append]; simp [joinB]
      rw [e]; exact h
    · rintro x (h | h | h)
      · exact .inl (.inl h)
      · exact .inr (Nat.le_trans hz (own_ge H3.out.1 h).1)
      · exact .inl (.inr (.inr h))
set_option maxHeartbeats 2000000 in
theorem rd_save (d : RDAt w B R vb vs s) (hB : B ≤ w.heap.size) (a : Option Addr) (c : List UInt8) (n cap : Nat) (r : Int) (hr : errN c = r) (hn : c.length = n) (hc : OkC c) (hmx : n ≤ 9223372036854775807) (hb : BytesAt w a c) (hnc : a = none → cap = 0) :
    Calls Tryd.prog 55 #[.pointer (some ⟨R, 0, none⟩), .slice a n cap] w (RDTo w B R vb vs (.returned (.int .i64 r)) (s.save c)) := by
  have HV := Lib.hid (rd_valid d)
  by_cases hl : 65536 < n
  · have e1 : r = 11 := by rw [← hr]; unfold errN; rw [if_pos (by omega)]
    have e2 : s.save c = s := by unfold Sp.save; rw [if_pos (by omega)]
    rw [e1, e2]
    have HD := Lib.hid d
    clear d hr hn hc hb hnc e1 e2
    go_enter Tryd.func55, Tryd.ntmps55
    go_wp2_with (go_at_call 80; refine HV.out.mono ?_; rintro e w' ⟨rfl, rfl⟩)
    go_ret
    exact HD.out.stay (Below.refl _ _) _
  · have e1 : r = 0 := by rw [← hr]; unfold errN; rw [if_neg (by omega)]
    have e2 : s.save c = ⟨[], 0, c, true⟩ := by unfold Sp.save; rw [if_neg (by omega)]
    rw [e1, e2]
    have hc100 : n ≤ 100 := by rcases hc with hc | hc <;> omega
    have HD := Lib.hid (And.intro d (And.intro hn (And.intro (hb.below ((Below.refl _ w).alloc (Nat.le_refl _) (.cells #[] 5))) hnc)))
    clear d hr hn hc hb hnc e1 e2
    go_enter Tryd.func55, Tryd.ntmps55
    go_wp2_with (first
      | (go_at_call 80; refine HV.out.mono ?_; rintro e w' ⟨rfl, rfl⟩)
      | (at_builtin
         refine wpList_append_any rfl _ _ rfl w.heap.size (.slice (some ⟨w.heap.size, 0, none⟩) 0 0) [] c rfl (own_lit w _ (Nat.le_refl _)) a n cap rfl HD.out.2.1 HD.out.2.2.1 HD.out.2.2.2 (by have := HD.out.2.1; simp; omega) (by simp) ?_
         intro v2 w2 hown2 hg2 _ _
         obtain ⟨A2, C2, hv2, -⟩ := hown2.any
         obtain ⟨n2, hn2⟩ : ∃ n2, ([] ++ c).length = n2 := ⟨_, rfl⟩
         rw [hn2] at hv2
         subst hv2
         have hb2 : Below w.heap.size w w2 := ((Below.refl _ w).alloc (Nat.le_refl _) _).grown hg2 (by simp) (fun k hk => by simp [Value.ownBlock] at hk; omega)
         have k2 := blk_below' HD.out.1.blk hb2
         obtain ⟨A, C, hv, -⟩ := HD.out.1.b.any
         obtain ⟨A', C', hv', -⟩ := HD.out.1.st.any
         rw [hv, hv'] at k2
         have g1 := cell_blk k2 1
         have g2 := cell_blk k2 2
         have g3 := cell_blk k2 3
         have g4 := cell_blk k2 4
         have gf1 := free_blk k2 1
         have gf2 := free_blk k2 2
         have gf3 := free_blk k2 3
         have gf4 := free_blk k2 4
         have zR2 := lt_of_blk k2
         simp at g1 g2 g3 g4
         have H2 := Lib.hid (And.intro (show OwnB w2 w.heap.size (.slice A2 n2 C2) c by simpa using hown2) hb2)
         clear hown2 hg2 hb2 k2 hv hv' hn2))
    go_ret
    have d := HD.out.1
    have d2 := d.below H2.out.2
    have hz := H2.out.2.size
    have hU2 : Upd (fun x => x = R) w2 ((((w2.setCell ⟨R, 3, none⟩ (.slice A2 n2 C2)).setCell ⟨R, 4, none⟩ (.bool true)).setCell ⟨R, 1, none⟩ (.slice none 0 0)).setCell ⟨R, 2, none⟩ (.int .i64 0)) := by
      repeat refine Upd.setCell ?_ _ _ (.inl rfl)
      exact Upd.refl _ _
    have hU : Upd (fun x => x = R) w ((((w2.setCell ⟨R, 3, none⟩ (.slice A2 n2 C2)).setCell ⟨R, 4, none⟩ (.bool true)).setCell ⟨R, 1, none⟩ (.slice none 0 0)).setCell ⟨R, 2, none⟩ (.int .i64 0)) :=
      (Upd.of_below H2.out.2).trans hU2 (fun _ h => .inl h)
    refine ⟨rfl, .slice none 0 0, .slice A2 n2 C2, ⟨d.ge, ?_, OwnB.nil _ _, ?_⟩, hU, ?_⟩
    · have h := blk_set (blk_set (blk_set (blk_set d2.blk 3 (.slice A2 n2 C2)) 4 (.bool true)) 1 (.slice none 0 0)) 2 (.int .i64 0)
      simpa [spos, joinB] using h
    · exact (own_upd H2.out.1 hU2 (fun x hx e => own_not H2.out.1 d2.blk (by decide) (e ▸ hx))).mono hB
    · rintro x (h | h | h)
      · exact .inl (.inl h)
      · cases h
      · exact .inr (own_ge H2.out.1 h).1
end
theorem own_take {w : World} {B n C : Nat} {A : Option Addr} {l : List UInt8} (h : OwnB w B (.slice A n C) l) (p : Nat) (hp : p ≤ n) : OwnB w B (.slice A p C) (l.take p) := by
  rcases h.2 with ⟨hn, h0⟩ | ⟨g, cap, cur, hv, hB, hg, h1, h2, h3, h4⟩
  · simp only [Value.slice.injEq] at hn
    obtain ⟨rfl, hn, rfl⟩ := hn
    obtain rfl : p = 0 := by omega
    rw [List.take_zero]
    exact OwnB.nil _ _
  · simp only [Value.slice.injEq] at hv
    obtain ⟨rfl, rfl, rfl⟩ := hv
    have e : (l.take p).length = p := by rw [List.length_take]; omega
    refine ⟨by rw [List.length_map, Nat.mul_one], .inr ⟨g, C, cur, by rw [e], hB, hg, by omega, h2, h3, ?_⟩⟩
    rw [e, List.map_take, ← h4, List.take_take]
    congr 1
    omega
section
variable {w w' : World} {B R : Nat} {vb vs : Value} {s : Sp} {m : Nat}
set_option maxHeartbeats 2000000 in
theorem rd_tear (d : RDAt w B R vb vs s) (hm : s.Fits m) (hm2 : m ≤ 1000) (left : Int) : Calls Tryd.prog 54 #[.pointer (some ⟨R, 0, none⟩), .int .i64 left] w (RDTo w B R vb vs (.returned (.tuple #[])) (s.tear left)) := by
  have HV := Lib.hid (rd_valid d)
  obtain ⟨A, C, hv, hC1, hC2, hnil, hby⟩ := d.b.any
  have hbytes := hm.bytes
  obtain ⟨N, hN⟩ : ∃ N, spos s.cs s.k + tornN (joinB s.cs).length (spos s.cs s.k) left = N := ⟨_, rfl⟩
  obtain ⟨K, hK⟩ : ∃ K, tornK s.cs s.k left = K := ⟨_, rfl⟩
  have hsp := tornK_spec s.cs s.k left hm.safe N hN
  rw [hK] at hsp
  obtain ⟨h1, h2, h3, h4⟩ := hsp
  obtain ⟨t1, t2, t3, -⟩ := torn s.cs hm.all N K h2 h1 h3 h4
  have hpos := t1 K (Nat.le_refl _)
  have hne : nextE ((joinB s.cs).take N) ((pos ((joinB s.cs).take N) K : Nat) : Int) ≠ 0 := by rw [hpos, t3]; split <;> decide
  obtain ⟨p, hp⟩ : ∃ p, spos s.cs K = p := ⟨_, rfl⟩
  obtain ⟨n, hn⟩ : ∃ n, (joinB s.cs).length = n := ⟨_, rfl⟩
  obtain ⟨sf, hsf⟩ : ∃ sf, spos s.cs s.k = sf := ⟨_, rfl⟩
  obtain ⟨t, ht⟩ : ∃ t, tornN n sf left = t := ⟨_, rfl⟩
  have hte := tornN_eq n sf left
  rw [hn, hsf, ht] at hN
  rw [ht] at hte
  have hsl : sf ≤ n := by rw [← hsf, ← hn]; exact spos_le _ _
  have htl : ((joinB s.cs).take N).length = N := by rw [List.length_take]; omega
  have hHA := fun (w' : World) (hb' : Below w.heap.size w w') => rall_any A ((joinB s.cs).take N) N C w' htl (by omega) (by omega) hC2 ((hby.take N).below hb')
  have c1 := cell_blk d.blk 1
  have c2 := cell_blk d.blk 2
  have zR := lt_of_blk d.blk
  rw [hn] at hbytes hv hC1 h2
  rw [hv] at c1
  rw [hsf] at c2
  simp at c1 c2
  rw [hpos, hp] at hne
  rw [hp] at h3
  have HA := Lib.hid hHA
  have HD := Lib.hid (And.intro d (And.intro hv (And.intro hp (And.intro hK (And.intro h1 hn)))))
  have HP := Lib.hid (And.intro t2 (And.intro (show nextE ((joinB s.cs).take N) ((pos ((joinB s.cs).take N) K : Nat) : Int) ≠ 0 by rw [hpos, hp]; exact hne) (show pos ((joinB s.cs).take N) K = p by rw [hpos, hp])))
  have hw : IntKind.i64.wrap ((sf : Int) + t) = (N : Int) := by rw [IntKind.wrap_i64]; omega
  have hNC : N ≤ C := by omega
  have hC9 : C ≤ 9223372036854775807 := hC2
  clear d hm hv hby hnil hHA t1 t2 t3 hpos hp hne hsf ht hN h4 h1 htl hC2 hn hK
  obtain ⟨z, hz⟩ : ∃ z, (if (n : Int) - sf < left then (n : Int) - sf else left) = z := ⟨_, rfl⟩
  rw [hz] at hte
  go_enter Tryd.func54, Tryd.ntmps54
  go_wp2_with (go_at_call 80; refine HV.out.mono ?_; rintro e w' ⟨rfl, rfl⟩)
  go_region
  clear hte hz
  go_wp2_with (first
    | (go_at_call 31
       refine (HA.out w.drew (Below.refl _ w).drew).mono ?_
       rintro e w1 ⟨xs, v1, rfl, -, hup1, hne1, hb1⟩
       obtain rfl : xs.length = K := cnt_unique hup1 hne1 HP.out.1 HP.out.2.1
       rw [HP.out.2.2]
       have hb2 : Below w.heap.size w w1 := (Below.refl _ w).drew.trans hb1
       have k1 := blk_below' HD.out.1.blk hb2
       rw [HD.out.2.1] at k1
       have g1 := cell_blk k1 1
       have g2 := cell_blk k1 2
       have gf1 := free_blk k1 1
       have gf2 := free_blk k1 2
       have zR1 := lt_of_blk k1
       have hpC : p ≤ C := by omega
       simp at g1 g2
       have H1 := Lib.hid hb2
       clear hb1 hb2 k1 hup1 hne1 c1 c2))
  go_end0
  have d := HD.out.1
  have d1 := d.below H1.out
  have hU1 : Upd (fun x => x = R) w1 ((w1.setCell ⟨R, 1, none⟩ (.slice A p C)).setCell ⟨R, 2, none⟩ (.int .i64 (p : Int))) := by
    repeat refine Upd.setCell ?_ _ _ (.inl rfl)
    exact Upd.refl _ _
  have hU : Upd (fun x => x = R) w ((w1.setCell ⟨R, 1, none⟩ (.slice A p C)).setCell ⟨R, 2, none⟩ (.int .i64 (p : Int))) := (Upd.of_below H1.out).trans hU1 (fun _ h => .inl h)
  have hob : (Value.slice A p C).ownBlock = vb.ownBlock := by rw [HD.out.2.1]; cases A <;> rfl
  have hown : OwnB w1 B (.slice A p C) (joinB (s.cs.take xs.length)) := by
    rw [← join_take, HD.out.2.2.1]
    exact own_take (by rw [← HD.out.2.1]; exact d1.b) p (by omega)
  refine ⟨rfl, .slice A p C, vs, ⟨d.ge, ?_, ?_, own_upd d1.st hU1 (fun x hx e => own_not d1.st d1.blk (by decide) (e ▸ hx))⟩, hU, ?_⟩
  · have h := blk_set (blk_set d1.blk 1 (.slice A p C)) 2 (.int .i64 (p : Int))
    unfold Sp.tear
    simp only
    rw [HD.out.2.2.2.1, spos_take, HD.out.2.2.1]
    simpa using h
  · unfold Sp.tear
    simp only
    rw [HD.out.2.2.2.1]
    exact own_upd hown hU1 (fun x hx e => own_not hown d1.blk (by decide) (e ▸ hx))
  · rintro x (h | h | h)
    · exact .inl (.inl h)
    · exact .inl (.inr (.inl (by rw [← hob]; exact h)))
    · exact .inl (.inr (.inr h))
end
theorem ownT_ne {w : World} {B B' : Nat} {v v' : Value} {vs : List Value} {l : List UInt8} (h : OwnT w B v vs) (hc : OwnB w B' v' l) : v'.ownBlock = none ∨ v'.ownBlock ≠ v.ownBlock := own_ne_rowE (by decide) h hc
/-- Rows of two types lie apart. -/
theorem row_grown {w w' : World} {B B' n n' size size' : Nat} {e e' : TypeId} {v v' : Value} {xs xs' : List Value} (he : e ≠ e') (h : w.ownsRow B e size v n xs) (h' : w.ownsRow B' e' size' v' n' xs') (hg : w.grownBy w' v'.ownBlock) : w'.ownsRow B e size v n xs := by
  refine ⟨h.1, ?_⟩
  rcases h.2 with hn | ⟨g, cap, cur, hv, hB, hk, r⟩
  · exact .inl hn
  · refine .inr ⟨g, cap, cur, hv, hB, grow_blk hg hk (fun q => ?_), r⟩
    rcases h'.2 with ⟨hn', _⟩ | ⟨g', cap', cur', hv', _, hk', _⟩
    · rw [hn'] at q; cases q
    · rw [hv'] at q
      simp [Value.ownBlock] at q
      subst q
      rw [hk] at hk'; cases hk'; exact he rfl
theorem RRecList.grown {w w' : World} {B B' : Nat} {l : List UInt8} {v v' : Value} {xs : List Rec} {vs : List Value} (h : RRecList w B l v xs) (h' : OwnT w B' v' vs) (hg : w.grownBy w' v'.ownBlock) : RRecList w' B l v xs :=
  ⟨row_grown (by decide) h.1 h' hg, fun i hi => by
    obtain ⟨x, e1, e2, e3⟩ := h.2 i hi
    exact ⟨x, e1, e2, e3.grown hg (ownT_ne h' e3)⟩⟩
section
variable {w w' : World} {B R : Nat} {vb vs : Value} {s : Sp} {m : Nat}
set_option maxRecDepth 20000 in
set_option maxHeartbeats 4000000 in
theorem rd_records (d : RDAt w B R vb vs s) (hm : s.Fits m) (hm2 : m ≤ 1000) : Calls Tryd.prog 62 #[.pointer (some ⟨R, 0, none⟩)] w fun e w' => ∃ v, e = .returned v ∧ ListB w' w.heap.size v s.cs ∧ Below w.heap.size w w' := by
  have HV := Lib.hid (rd_valid d)
  obtain ⟨A, C, hv, hC1, hC2, hnil, hby⟩ := d.b.any
  have hbytes := hm.bytes
  obtain ⟨l, hl⟩ : ∃ l, joinB s.cs = l := ⟨_, rfl⟩
  obtain ⟨n, hn⟩ : ∃ n, s.cs.length = n := ⟨_, rfl⟩
  have hlen := hm.len
  rw [hn] at hlen
  have hcont : ∀ i, i < n → pos l i = spos s.cs i ∧ cont l (pos l i) = tx s.cs i ∧ be4 l (pos l i) = (tx s.cs i).length := fun i hi => by
    have e1 := join_pos s.cs hm.all i (by omega)
    obtain ⟨a, b, c⟩ := join_next s.cs i (by omega) (hm.all i (by omega))
    rw [hl] at e1 a b c
    exact ⟨e1, by rw [e1]; exact b, by rw [e1]; exact a⟩
  obtain ⟨-, hup, hne⟩ := join_chk s.cs hm.all
  rw [hl, hn] at hup hne
  rw [hl] at hv hC1 hby hbytes
  have hHA := rall_any A l l.length C w rfl (by omega) hC1 hC2 hby
  have c1 := cell_blk d.blk 1
  have zR := lt_of_blk d.blk
  rw [hv] at c1
  simp at c1
  have HA := Lib.hid (And.intro hHA (And.intro hup (And.intro hne (And.intro hcont hn))))
  clear d hm hv hby hnil hHA hup hne hcont hl hn
  go_enter Tryd.func62, Tryd.ntmps62
  go_wp2_with (first
    | (go_at_call 80; refine HV.out.mono ?_; rintro e w' ⟨rfl, rfl⟩)
    | (go_at_call 31
       refine HA.out.1.mono ?_
       rintro e w1 ⟨xs, v1, rfl, hr1, hup1, hne1, hb1⟩
       have hxl : xs.length = n := cnt_unique hup1 hne1 HA.out.2.1 HA.out.2.2.1
       obtain ⟨A1, C1, hv1⟩ := hr1.shape
       rw [hxl] at hv1
       subst hv1
       have H1 := Lib.hid (And.intro hr1 (And.intro hb1 hxl))
       clear hr1 hup1 hne1 hb1 hxl c1))
  obtain ⟨i0, hi, hz0, hz1, hz2⟩ := info_parts Tryd.info22
  have HI := Lib.hid (And.intro hi (And.intro hz0 (And.intro hz1 hz2)))
  clear hi hz0 hz1 hz2
  go_loopw [3, 6] (fun ov iv wr => ∃ k : Nat, k ≤ n ∧ iv = .int .i64 (k : Int) ∧ ListB wr w.heap.size ov (s.cs.take k) ∧ RRecList wr w.heap.size l (.slice A1 n C1) xs ∧ Below w.heap.size w wr) (fun _ iv _ => n - (intOf iv).toNat)
  case atStart => exact ⟨0, Nat.zero_le _, rfl, ⟨[], rfl, World.ownsRow_nil _ _ _ _, fun i hi => by simp at hi⟩, H1.out.1, H1.out.2.1⟩
  case round =>
    obtain ⟨k, hk, rfl, ho, hc, hb⟩ := hrel
    have HB := Lib.hid (And.intro ho (And.intro hc hb))
    by_cases hlt : k < n
    · obtain ⟨g0, x, rfl, hx1, hx2, hx3, hx4⟩ := (hc.of H1.out.2.2) k hlt
      obtain ⟨e1, e2, e3⟩ := HA.out.2.2.2.1 k hlt
      unfold recSlice at hx4 hx2
      rw [hx1, e3] at hx4 hx2
      rw [e2] at hx2
      obtain ⟨vs', q1, q2, q3⟩ := ho
      have hcl := HA.out.2.2.2.2
      have htk : s.cs.take (k + 1) = s.cs.take k ++ [tx s.cs k] := by
        have hkl : k < s.cs.length := by omega
        rw [List.take_add_one]
        unfold tx
        rw [List.getElem?_eq_getElem hkl]
        rfl
      have hql : vs'.length = k := by rw [q1, List.length_take]; omega
      obtain ⟨tn, htn⟩ : ∃ tn, (tx s.cs k).length = tn := ⟨_, rfl⟩
      rw [htn] at hx4 hx2
      have HX := Lib.hid (And.intro hx2 (And.intro q2 (And.intro q3 (And.intro htk (And.intro hql htn)))))
      have hki : (k : Int) < (n : Int) := by omega
      have zg0 : g0 < wr.heap.size := World.block_lt_of_cell? _ _ hx4
      clear hc hb hx1 hx2 hx3 e1 e2 e3 q1 q2 q3 htk hql htn hcl
      go_wp2_with (first
        | (at_builtin
           go_must (refine wpList_append_own _ rfl _ _ 39 rfl w.heap.size 22 i0 _ 1 24 Tryd.underlying39 HI.out.1 HI.out.2.1 HI.out.2.2.1 HI.out.2.2.2 rfl (by decide) u3 vs'.length vs' rfl (World.ownsRow.alloc HX.out.2.1 _) ⟨wr.heap.size, 0, none⟩ 1 1 [.slice (some ⟨x.g, 0, none⟩) tn x.cap] rfl rfl (cells_new1 _ _ _) (by simp [Value.oneCell']) (by have := HX.out.2.2.2.2.1; unfold maxLen; omega) (by have := HX.out.2.2.2.2.1; omega) (by have := HB.out.2.2.size; simp; omega) ?_)
           intro v' w2 hown' hgrow _
           have H2 := Lib.hid (And.intro hown' hgrow)
           clear hown' hgrow))
      go_roundw
      case rel =>
        obtain ⟨x1, x2, x3, x4, x5, x6⟩ := HX.out
        obtain ⟨p1, p2⟩ := H2.out
        have hba : Below wr.heap.size wr (wr.alloc (.cells #[.slice (some ⟨x.g, 0, none⟩) tn x.cap] 22)) := (Below.refl _ _).alloc (Nat.le_refl _) _
        have hrow := World.ownsRow.alloc x2 (.cells #[.slice (some ⟨x.g, 0, none⟩) tn x.cap] 22)
        have hkeep : ∀ {y : Value} {t : List UInt8} {B' : Nat}, OwnB wr B' y t → OwnB w2 B' y t := by
          intro y t B' h
          have h2 := h.below hba
          exact h2.grown p2 (ownT_ne hrow h2)
        refine ⟨k + 1, hlt, by go_num, ⟨vs' ++ [.slice (some ⟨x.g, 0, none⟩) tn x.cap], ?_, ?_, fun i hi => ?_⟩, ?_, ?_⟩
        · rw [x4, List.length_append, List.length_append]
          have : (s.cs.take k).length = vs'.length := by rw [List.length_take, x5]; have := HA.out.2.2.2.2; omega
          rw [this]
          rfl
        · unfold OwnT; rw [List.length_append]; exact p1
        · rw [x4, List.length_append, List.length_take] at hi
          have hcl := HA.out.2.2.2.2
          simp at hi
          by_cases hik : i < k
          · obtain ⟨g, gc, y1, y2⟩ := x3 i (by rw [List.length_take]; omega)
            rw [x4, tx_append_left _ _ _ (by rw [List.length_take]; omega)]
            exact ⟨g, gc, by rw [List.getElem?_append_left (by omega)]; exact y1, hkeep y2⟩
          · obtain rfl : i = k := by omega
            rw [x4, tx_append_right _ _ _ (by rw [List.length_take]; omega), List.length_take, show i - min i s.cs.length = 0 by omega]
            show ∃ g gc, (vs' ++ [.slice (some ⟨x.g, 0, none⟩) tn x.cap])[i]? = some (.slice (some ⟨g, 0, none⟩) (tx s.cs i).length gc) ∧ OwnB w2 w.heap.size (.slice (some ⟨g, 0, none⟩) (tx s.cs i).length gc) (tx s.cs i)
            refine ⟨x.g, x.cap, ?_, ?_⟩
            · rw [List.getElem?_append_right (by omega), x5, Nat.sub_self, x6]; rfl
            · rw [x6]; exact hkeep x1
        · exact (HB.out.2.1.below hba).grown hrow p2
        · exact (HB.out.2.2.alloc HB.out.2.2.size _).grown p2 (by have := HB.out.2.2.size; simp; omega) (fun z hz => (World.ownsRow.lt x2 z hz).1)
      case measure => simp [intOf]; omega
    · obtain rfl : k = n := by omega
      clear ho hc hb
      go_wp2
      go_ret
      have h := HB.out.1
      rw [List.take_of_length_le (by rw [HA.out.2.2.2.2]; exact Nat.le_refl _)] at h
      exact ⟨u3, rfl, h, HB.out.2.2⟩
end
set_option maxHeartbeats 1000000 in
theorem rsame61 (a a' : Option Addr) (cs : List (List UInt8)) (n c c' : Nat) (w : World) (hn : cs.length = n) (hmx : n ≤ 1000000) (h1 : TextsAt w a cs) (h2 : TextsAt w a' cs) :
    Calls Tryd.prog 61 #[.slice a n c, .slice a' n c'] w fun e w' => e = .returned (.bool true) ∧ Below w.heap.size w w' := by
  have HL := Lib.hid (And.intro h1 (And.intro h2 hn))
  clear h1 h2 hn
  go_enter Tryd.func61, Tryd.ntmps61
  go_wp2
  go_loopw [5] (fun i wr => ∃ k : Nat, k ≤ n ∧ i = .int .i64 (k : Int) ∧ Below w.heap.size w wr) (fun i _ => n - (intOf i).toNat)
  case atStart => exact ⟨0, Nat.zero_le _, rfl, Below.refl _ _⟩
  case round =>
    obtain ⟨k, hk, rfl, hB⟩ := hrel
    by_cases hlt : k < n
    · have hkl : k < cs.length := by rw [HL.out.2.2]; exact hlt
      obtain ⟨b, off, A, C, rfl, hc, -, -, hb⟩ := HL.out.1.at hB k hkl
      obtain ⟨b', off', A', C', rfl, hc', -, -, hb'⟩ := HL.out.2.1.at hB k hkl
      have ks1 := fun u => str_of (wr.drewN u) A (tx cs k) _ C (by cases u <;> exact hb) rfl
      have ks2 := fun u => str_of (wr.drewN u) A' (tx cs k) _ C' (by cases u <;> exact hb') rfl
      have hki : (k : Int) < (n : Int) := by omega
      have HB := Lib.hid hB
      clear hB hb hb' hkl
      go_wp2_with fail
      go_quiet (fail)
      go_wp2
      refine ⟨⟨k + 1, hlt, (by first | rfl | exact congrArg (Value.int .i64) (by omega)), HB.out.drewN nq⟩, ?_⟩
      simp [intOf]; omega
    · obtain rfl : k = n := by omega
      have HB := Lib.hid hB
      clear hB
      go_wp2
      go_ret
      exact ⟨rfl, HB.out⟩
theorem run_append_opt (w : World) (ty : TypeId) (B : Nat) (v : Value) (l m : List UInt8) (A : Option Addr) (n c : Nat) (hown : OwnB w B v l) (hn : m.length = n) (hm : BytesAt w A m) (hnc : A = none → c = 0) (hlen : l.length + n ≤ 140737488355328) (hB : B ≤ w.heap.size) :
    ∃ v' w', (Builtin.append_ #[22, 22] ty #[v, .slice A n c]).run Tryd.prog w = .ok v' w' ∧ OwnB w' B v' (l ++ m) ∧ w.grownBy w' v.ownBlock ∧ (v'.ownBlock = v.ownBlock ∨ v'.ownBlock = some w.heap.size) := by
  subst hn
  cases A with
  | some ad =>
    obtain ⟨v', w', h1, h2, h3, -, h5⟩ := append_bytes w B ty v l m ad c hown hm hlen hB
    exact ⟨v', w', h1, h2, h3, h5⟩
  | none =>
    obtain rfl := hnc rfl
    have hm0 : m = [] := by
      rcases hm with h | ⟨b, off, h1, _⟩
      · exact h
      · cases h1
    subst hm0
    obtain ⟨i0, hi, hz0, hz1, hz2⟩ := info_parts Tryd.info5
    have hrun := run_append_owned_none (P := Tryd.prog) w B 22 ty 5 i0 1 Tryd.underlying22 hi v l.length (l.map bv) hown
    exact ⟨v, w, hrun, by rw [List.append_nil]; exact hown, ⟨rfl, rfl, rfl, Nat.le_refl _, fun _ _ _ => rfl⟩, .inl rfl⟩
theorem step_append_opt {w : World} {ops : Array Oper} {o : Oper} {a : Act} {K : Act → World → Prop} {Q : Exit → Act → World → Prop} {E : Prop} (hgd : o.guard = none) (s x : Operand)
    (ho : o.op = .call { callee := .builtin .append, args := #[s, x], argTypes := #[22, 22] })
    (B : Nat) (v : Value) (l m : List UInt8) (hs : a.eval s = v) (A : Option Addr) (n c : Nat) (hx : a.eval x = .slice A n c) (hown : OwnB w B v l) (hn : m.length = n) (hm : BytesAt w A m) (hnc : A = none → c = 0) (hlen : l.length + n ≤ 140737488355328) (hB : B ≤ w.heap.size)
    (h : ∀ v' w', OwnB w' B v' (l ++ m) → w.grownBy w' v.ownBlock → (v'.ownBlock = v.ownBlock ∨ v'.ownBlock = some w.heap.size) → K (a.put o.dst v') w') :
    if Region.wanted o (yielded ops a.tmps) = true then Oper.wp Tryd.prog o a w K Q else E := by
  have hw : Region.wanted o (yielded ops a.tmps) = true := by simp [Region.wanted, hgd]
  rw [if_pos hw]
  obtain ⟨v', w', hr, h2, h3, h4⟩ := run_append_opt w o.type B v l m A n c hown hn hm hnc hlen hB
  unfold Oper.wp execOp
  simp only [ho, resolve, invoke, builtin, Sem.run_bind, Sem.run_pure, Result.andThen_ok, List.map_toArray, List.map_cons, List.map_nil, hs, hx, hr]
  exact h v' w' h2 h3 h4
/-- TwoB lists of bytes, both made since w0, apart. -/
structure TwoB (w0 W : World) (va : Value) (la : List UInt8) (vb : Value) (lb : List UInt8) : Prop where
  out : Below w0.heap.size w0 W
  a : OwnB W w0.heap.size va la
  b : OwnB W w0.heap.size vb lb
  ne : ∀ x, va.ownBlock = some x → vb.ownBlock ≠ some x
theorem TwoB.swap {w0 W : World} {va vb : Value} {la lb : List UInt8} (h : TwoB w0 W va la vb lb) : TwoB w0 W vb lb va la := ⟨h.out, h.b, h.a, fun x e1 e2 => h.ne x e2 e1⟩
theorem TwoB.one (w : World) : TwoB w (w.drew.alloc (.cells #[] 5)) (.slice (some ⟨w.heap.size, 0, none⟩) 0 0) [] (.slice none 0 0) [] :=
  ⟨(Below.refl _ w).drew.alloc (Nat.le_refl _) _, own_lit w.drew _ (Nat.le_refl _), OwnB.nil _ _, fun x _ e => by cases e⟩
/-- A further empty list. -/
theorem TwoB.lit {w0 W : World} {va : Value} {la : List UInt8} (h : TwoB w0 W va la (.slice none 0 0) []) (x : Nat) (hx : W.heap.size = x) : TwoB w0 (W.alloc (.cells #[] 5)) (.slice (some ⟨x, 0, none⟩) 0 0) [] va la := by
  subst hx
  have hb : Below W.heap.size W (W.alloc (.cells #[] 5)) := (Below.refl _ _).alloc (Nat.le_refl _) _
  refine ⟨belowStep h.out hb, own_lit W _ h.out.size, h.a.below hb, fun x e1 e2 => ?_⟩
  simp [Value.ownBlock] at e1
  subst e1
  exact absurd (own_ge h.a e2).2 (Nat.lt_irrefl _)
theorem step_append_two {w0 w : World} {ops : Array Oper} {o : Oper} {a : Act} {K : Act → World → Prop} {Q : Exit → Act → World → Prop} {E : Prop} (hgd : o.guard = none) (s x : Operand)
    (ho : o.op = .call { callee := .builtin .append, args := #[s, x], argTypes := #[22, 22] })
    (va vb : Value) (m lb : List UInt8) (hs : a.eval s = va) (A : Option Addr) (n c : Nat) (hx : a.eval x = .slice A n c) (T : TwoB w0 w va [] vb lb) (hn : m.length = n) (hm : BytesAt w A m) (hnc : A = none → c = 0) (hlen : n ≤ 140737488355328)
    (h : ∀ A' C' w', TwoB w0 w' (.slice A' n C') m vb lb → Below w0.heap.size w0 w' → K (a.put o.dst (.slice A' n C')) w') :
    if Region.wanted o (yielded ops a.tmps) = true then Oper.wp Tryd.prog o a w K Q else E := by
  refine step_append_opt hgd s x ho w0.heap.size va [] m hs A n c hx T.a hn hm hnc (by simpa using hlen) T.out.size ?_
  intro v' w' ho' hg hat
  rw [List.nil_append] at ho'
  obtain ⟨A', C', e, -⟩ := ho'.any
  rw [hn] at e
  subst e
  have hne : ∀ x, va.ownBlock = some x → w0.heap.size ≤ x := fun x hx => (own_ge T.a hx).1
  have hb : Below w0.heap.size w0 w' := T.out.grown hg T.out.size hne
  refine h A' C' w' ⟨hb, ho', T.b.grown hg ?_, fun x e1 e2 => ?_⟩ hb
  · cases hv : vb.ownBlock with
    | none => exact .inl rfl
    | some y => exact .inr (fun e => T.ne y e.symm hv)
  · have hx := own_ge T.b e2
    rcases hat with hat | hat
    · exact T.ne x (by rw [← hat]; exact e1) e2
    · rw [hat] at e1
      have := Option.some.inj e1
      omega
theorem TwoB.drew {w0 W : World} {va vb : Value} {la lb : List UInt8} (h : TwoB w0 W va la vb lb) : TwoB w0 W.drew va la vb lb :=
  have hb : Below W.heap.size W W.drew := (Below.refl _ _).drew
  ⟨belowStep h.out hb, h.a.below hb, h.b.below hb, h.ne⟩
theorem TwoB.one0 (w : World) : TwoB w (w.alloc (.cells #[] 5)) (.slice (some ⟨w.heap.size, 0, none⟩) 0 0) [] (.slice none 0 0) [] :=
  ⟨(Below.refl _ w).alloc (Nat.le_refl _) _, own_lit w _ (Nat.le_refl _), OwnB.nil _ _, fun x _ e => by cases e⟩
section
variable {w w' : World} {B R : Nat} {vb vs : Value} {s : Sp} {m : Nat}
set_option maxRecDepth 20000 in
set_option maxHeartbeats 8000000 in
theorem rd_copy (d : RDAt w B R vb vs s) (hm : s.Fits m) (hm2 : m ≤ 1000) : Calls Tryd.prog 57 #[.pointer (some ⟨R, 0, none⟩)] w fun e w' => ∃ R' vb' vs', e = .returned (.pointer (some ⟨R', 0, none⟩)) ∧ RDAt w' w.heap.size R' vb' vs' s ∧ Below w.heap.size w w' := by
  have HV := Lib.hid (rd_valid d)
  obtain ⟨A, C, hv, hC1, hC2, hnil, hby⟩ := d.b.any
  obtain ⟨A', C', hv', hC1', hC2', hnil', hby'⟩ := d.st.any
  have hbytes := hm.bytes
  have hst := hm.st
  obtain ⟨l, hl⟩ : ∃ l, joinB s.cs = l := ⟨_, rfl⟩
  obtain ⟨t, ht⟩ : ∃ t, s.st = t := ⟨_, rfl⟩
  obtain ⟨n, hn⟩ : ∃ n, l.length = n := ⟨_, rfl⟩
  obtain ⟨k, hk⟩ : ∃ k, t.length = k := ⟨_, rfl⟩
  obtain ⟨sf, hsf⟩ : ∃ sf, spos s.cs s.k = sf := ⟨_, rfl⟩
  obtain ⟨q, hq⟩ : ∃ q, s.has = q := ⟨_, rfl⟩
  have k0 := d.blk
  rw [hv, hv', hl, ht, hn, hk, hsf, hq] at k0
  rw [hl, hn] at hbytes
  rw [ht, hk] at hst
  rw [hl] at hby
  rw [ht] at hby'
  have c1 := cell_blk k0 1
  have c2 := cell_blk k0 2
  have c3 := cell_blk k0 3
  have c4 := cell_blk k0 4
  have zR := lt_of_blk k0
  simp at c1 c2 c3 c4
  have HD := Lib.hid (And.intro k0 (And.intro hby (And.intro hby' (And.intro hnil (And.intro hnil' (And.intro hn hk))))))
  have HS := Lib.hid (And.intro hl (And.intro ht (And.intro hsf hq)))
  clear d hm hv hv' hl ht hn hk hsf hq k0 hby hby' hnil hnil'
  go_enter Tryd.func57, Tryd.ntmps57
  go_wp2_with (go_at_call 80; refine HV.out.mono ?_; rintro e w' ⟨rfl, rfl⟩)
  go_region_held3 (fun w' => w'.cell? ⟨R, 1, none⟩ = some (.slice A n C) ∧ w'.cell? ⟨R, 2, none⟩ = some (.int .i64 (sf : Int)) ∧ w'.cell? ⟨R, 3, none⟩ = some (.slice A' k C') ∧ w'.cell? ⟨R, 4, none⟩ = some (.bool q)) (first | go_keep | (refine ⟨?_, ?_, ?_, ?_⟩ <;> assumption)) ((first
    | (refine step_append_two (w0 := w) (by rfl) _ _ (by rfl) (.slice (some ⟨w1.heap.size, 0, none⟩) 0 0) (.slice A1 n C1) t l (by rfl) A' k C' (by rfl) (H1.out.lit w1.heap.size rfl) HD.out.2.2.2.2.2.2 (HD.out.2.2.1.below (H1.out.lit w1.heap.size rfl).out) HD.out.2.2.2.2.1 (by omega) ?_
       intro A2 C2 w2 hT hb
       have H2 := Lib.hid hT
       have kR := blk_below' HD.out.1 hb
       clear c1 c2 c3 c4 zR
       have c1 := cell_blk kR 1
       have c2 := cell_blk kR 2
       have c3 := cell_blk kR 3
       have c4 := cell_blk kR 4
       have zR := lt_of_blk kR
       simp at c1 c2 c3 c4
       clear hT hb kR)
    | (refine step_append_two (w0 := w) (by rfl) _ _ (by rfl) (.slice (some ⟨w.heap.size, 0, none⟩) 0 0) (.slice A1 n C1) t l (by rfl) A' k C' (by rfl) (H1.out.swap) HD.out.2.2.2.2.2.2 (HD.out.2.2.1.below (H1.out.swap).out) HD.out.2.2.2.2.1 (by omega) ?_
       intro A2 C2 w2 hT hb
       have H2 := Lib.hid hT
       have kR := blk_below' HD.out.1 hb
       clear c1 c2 c3 c4 zR
       have c1 := cell_blk kR 1
       have c2 := cell_blk kR 2
       have c3 := cell_blk kR 3
       have c4 := cell_blk kR 4
       have zR := lt_of_blk kR
       simp at c1 c2 c3 c4
       clear hT hb kR)
    | (refine step_append_two (w0 := w) (by rfl) _ _ (by rfl) (.slice (some ⟨(w.heap.size + 1), 0, none⟩) 0 0) (.slice A1 n C1) t l (by rfl) A' k C' (by rfl) (H1.out.swap) HD.out.2.2.2.2.2.2 (HD.out.2.2.1.below (H1.out.swap).out) HD.out.2.2.2.2.1 (by omega) ?_
       intro A2 C2 w2 hT hb
       have H2 := Lib.hid hT
       have kR := blk_below' HD.out.1 hb
       clear c1 c2 c3 c4 zR
       have c1 := cell_blk kR 1
       have c2 := cell_blk kR 2
       have c3 := cell_blk kR 3
       have c4 := cell_blk kR 4
       have zR := lt_of_blk kR
       simp at c1 c2 c3 c4
       clear hT hb kR)
    | (refine step_append_two (w0 := w) (by rfl) _ _ (by rfl) (.slice (some ⟨w.heap.size, 0, none⟩) 0 0) (.slice none 0 0) l [] (by rfl) A n C (by rfl) ((TwoB.one0 w).drew) HD.out.2.2.2.2.2.1 (HD.out.2.1.below ((TwoB.one0 w).drew).out) HD.out.2.2.2.1 (by omega) ?_
       intro A1 C1 w1 hT hb
       have H1 := Lib.hid hT
       have kR := blk_below' HD.out.1 hb
       clear c1 c2 c3 c4 zR
       have c1 := cell_blk kR 1
       have c2 := cell_blk kR 2
       have c3 := cell_blk kR 3
       have c4 := cell_blk kR 4
       have zR := lt_of_blk kR
       simp at c1 c2 c3 c4
       clear hT hb kR)
    | (refine step_append_two (w0 := w) (by rfl) _ _ (by rfl) (.slice (some ⟨(w.heap.size + 1), 0, none⟩) 0 0) (.slice (some ⟨w.heap.size, 0, none⟩) 0 0) l [] (by rfl) A n C (by rfl) (((TwoB.one0 w).drew.lit (w.heap.size + 1) (by simp))) HD.out.2.2.2.2.2.1 (HD.out.2.1.below (((TwoB.one0 w).drew.lit (w.heap.size + 1) (by simp))).out) HD.out.2.2.2.1 (by omega) ?_
       intro A1 C1 w1 hT hb
       have H1 := Lib.hid hT
       have kR := blk_below' HD.out.1 hb
       clear c1 c2 c3 c4 zR
       have c1 := cell_blk kR 1
       have c2 := cell_blk kR 2
       have c3 := cell_blk kR 3
       have c4 := cell_blk kR 4
       have zR := lt_of_blk kR
       simp at c1 c2 c3 c4
       clear hT hb kR)
    | (refine step_append_two (w0 := w) (by rfl) _ _ (by rfl) (.slice (some ⟨w.heap.size, 0, none⟩) 0 0) (.slice (some ⟨(w.heap.size + 1), 0, none⟩) 0 0) l [] (by rfl) A n C (by rfl) (((TwoB.one0 w).drew.lit (w.heap.size + 1) (by simp)).swap) HD.out.2.2.2.2.2.1 (HD.out.2.1.below (((TwoB.one0 w).drew.lit (w.heap.size + 1) (by simp)).swap).out) HD.out.2.2.2.1 (by omega) ?_
       intro A1 C1 w1 hT hb
       have H1 := Lib.hid hT
       have kR := blk_below' HD.out.1 hb
       clear c1 c2 c3 c4 zR
       have c1 := cell_blk kR 1
       have c2 := cell_blk kR 2
       have c3 := cell_blk kR 3
       have c4 := cell_blk kR 4
       have zR := lt_of_blk kR
       simp at c1 c2 c3 c4
       clear hT hb kR)
    | (refine step_append_two (w0 := w) (by rfl) _ _ (by rfl) (.slice (some ⟨(w.heap.size + 1), 0, none⟩) 0 0) (.slice (some ⟨w.heap.size, 0, none⟩) 0 0) l [] (by rfl) A n C (by rfl) (((TwoB.one0 w).lit (w.heap.size + 1) (by simp)).drew) HD.out.2.2.2.2.2.1 (HD.out.2.1.below (((TwoB.one0 w).lit (w.heap.size + 1) (by simp)).drew).out) HD.out.2.2.2.1 (by omega) ?_
       intro A1 C1 w1 hT hb
       have H1 := Lib.hid hT
       have kR := blk_below' HD.out.1 hb
       clear c1 c2 c3 c4 zR
       have c1 := cell_blk kR 1
       have c2 := cell_blk kR 2
       have c3 := cell_blk kR 3
       have c4 := cell_blk kR 4
       have zR := lt_of_blk kR
       simp at c1 c2 c3 c4
       clear hT hb kR)
    | (refine step_append_two (w0 := w) (by rfl) _ _ (by rfl) (.slice (some ⟨w.heap.size, 0, none⟩) 0 0) (.slice (some ⟨(w.heap.size + 1), 0, none⟩) 0 0) l [] (by rfl) A n C (by rfl) (((TwoB.one0 w).lit (w.heap.size + 1) (by simp)).drew.swap) HD.out.2.2.2.2.2.1 (HD.out.2.1.below (((TwoB.one0 w).lit (w.heap.size + 1) (by simp)).drew.swap).out) HD.out.2.2.2.1 (by omega) ?_
       intro A1 C1 w1 hT hb
       have H1 := Lib.hid hT
       have kR := blk_below' HD.out.1 hb
       clear c1 c2 c3 c4 zR
       have c1 := cell_blk kR 1
       have c2 := cell_blk kR 2
       have c3 := cell_blk kR 3
       have c4 := cell_blk kR 4
       have zR := lt_of_blk kR
       simp at c1 c2 c3 c4
       clear hT hb kR)))
  all_goals
    rename_i K hK hHeld
    refine hK _ _ ?_
    clear hHeld
    go_wp2_with (fail)
    go_ret
    obtain ⟨T1, T2, T3, -⟩ := H2.out
    obtain ⟨e1, e2, e3, e4⟩ := HS.out
    subst e1 e2 e3 e4
    have hb : Below w2.heap.size w2 (w2.alloc (.cells #[.bool true, .slice A1 n C1, .int .i64 (spos s.cs s.k : Int), .slice A2 k C2, .bool s.has] 102)) := (Below.refl _ _).alloc (Nat.le_refl _) _
    exact ⟨w2.heap.size, .slice A1 n C1, .slice A2 k C2, rfl, ⟨T1.size, blk_new _ _, T3.below hb, T2.below hb⟩, belowStep T1 hb⟩
end
end Go.Proofs.YtconcmjmdhdgjaaDoor
