/- A disk that is alone, and the contract of works: the examples of the chapter hold. -/
import Derived.Test.YtconcmjmdhdgjaaDoorDisk6
namespace Go.Proofs.YtconcmjmdhdgjaaDoor
open Go.RowKit

/-- A disk whose memory is all made since a world. -/
def Solo (w0 : World) (D : Nat) (l : List UInt8) (safe : Nat) (st : List UInt8) (has : Bool) (w : World) : Prop :=
  ∃ h : Dk, h.D = D ∧ DiskAt w w0.heap.size h l safe st has ∧ Below w0.heap.size w0 w
section
variable {w0 w : World} {D : Nat} {l : List UInt8} {safe : Nat} {st : List UInt8} {has : Bool}
theorem Solo.below (h : Solo w0 D l safe st has w) {w' : World} (hb : Below w.heap.size w w') : Solo w0 D l safe st has w' := by
  obtain ⟨h, h1, h2, h3⟩ := h
  exact ⟨h, h1, h2.below hb, belowStep h3 hb⟩
theorem Solo.did {B : Nat} {h : Dk} {r e : Ending} {l' st' : List UInt8} {safe' : Nat} {has' : Bool} {w' : World} (hB : w0.heap.size = B) (hb : Below w0.heap.size w0 w) (d : DiskAt w B h l safe st has) (hd : Did w B h r l' safe' st' has' e w') :
    e = r ∧ Solo w0 h.D l' safe' st' has' w' := by
  subst hB
  obtain ⟨h1, h', h2, h3, h4, h5⟩ := hd
  exact ⟨h1, h', h2, h3, hb.trans ⟨h4.os, h4.tape, h4.output, h4.size, fun b hb' => h4.block b (Nat.lt_of_lt_of_le hb' hb.size) (fun hf => by have := (d.foot_lt hf).1; omega)⟩⟩
theorem Solo.out (h : Solo w0 D l safe st has w) : Below w0.heap.size w0 w := by obtain ⟨_, _, _, h⟩ := h; exact h
theorem solo_new (w : World) : Calls Tryd.prog 48 #[] w fun e w' => e = .returned (.pointer (some ⟨w.heap.size + 1, 0, none⟩)) ∧ Solo w (w.heap.size + 1) [] 0 [] false w' :=
  (disk_new w).mono (fun _ _ h => ⟨h.1, _, rfl, h.2.1, h.2.2⟩)
theorem solo_len (h : Solo w0 D l safe st has w) : Calls Tryd.prog 41 #[.pointer (some ⟨D, 0, none⟩)] w fun e w' => e = .returned (.int .i64 (l.length : Int)) ∧ w = w' := by
  obtain ⟨h, rfl, h2, h3⟩ := h; exact disk_len h2
theorem solo_safe (h : Solo w0 D l safe st has w) : Calls Tryd.prog 42 #[.pointer (some ⟨D, 0, none⟩)] w fun e w' => e = .returned (.int .i64 (safe : Int)) ∧ w = w' := by
  obtain ⟨h, rfl, h2, h3⟩ := h; exact disk_safe h2
theorem solo_sync (h : Solo w0 D l safe st has w) : Calls Tryd.prog 49 #[.pointer (some ⟨D, 0, none⟩)] w fun e w' => e = .returned (.tuple #[]) ∧ Solo w0 D l l.length st has w' := by
  obtain ⟨h, rfl, h2, h3⟩ := h; exact (disk_sync h2).mono (fun _ _ k => Solo.did rfl h3 h2 k)
theorem solo_append (h : Solo w0 D l safe st has w) (a : Option Addr) (c : List UInt8) (n cap : Nat) (r : Int) (l' : List UInt8)
    (hn : c.length = n) (hm : n ≤ 140737488355328) (hb : BytesAt w a c) (hnc : a = none → cap = 0) (hf : Fours w) (hr : appE l c = r) (hl' : appL l c = l') :
    Calls Tryd.prog 43 #[.pointer (some ⟨D, 0, none⟩), .slice a n cap] w fun e w' => e = .returned (.int .i64 r) ∧ Solo w0 D l' safe st has w' := by
  obtain ⟨h, rfl, h2, h3⟩ := h; exact (disk_append h2 a c n cap r l' hn hm hb hnc hf hr hl').mono (fun _ _ k => Solo.did rfl h3 h2 k)
theorem solo_save (h : Solo w0 D l safe st has w) (a : Option Addr) (c : List UInt8) (n cap : Nat) (hn : c.length = n) (hm : n ≤ 65536) (hb : BytesAt w a c) (hnc : a = none → cap = 0) :
    Calls Tryd.prog 45 #[.pointer (some ⟨D, 0, none⟩), .slice a n cap] w fun e w' => e = .returned (.int .i64 0) ∧ Solo w0 D [] 0 c true w' := by
  obtain ⟨h, rfl, h2, h3⟩ := h; exact (disk_save h2 a c n cap hn hm hb hnc).mono (fun _ _ k => Solo.did rfl h3 h2 k)
theorem solo_save_long (h : Solo w0 D l safe st has w) (a : Option Addr) (n cap : Nat) (hlong : 65536 < n) (hm : n ≤ 140737488355328) :
    Calls Tryd.prog 45 #[.pointer (some ⟨D, 0, none⟩), .slice a n cap] w fun e w' => e = .returned (.int .i64 11) ∧ Solo w0 D l safe st has w' := by
  obtain ⟨h, rfl, h2, h3⟩ := h; exact (disk_save_long h2 a n cap hlong hm).mono (fun _ _ k => Solo.did rfl h3 h2 k)
theorem solo_tear (h : Solo w0 D l safe st has w) (hf : Fours w) (left : Int) (K p N : Nat) (l' : List UInt8)
    (hN : safe + tornN l.length safe left = N) (hup : Upto (l.take N) K) (hne : nextE (l.take N) ((pos (l.take N) K : Nat) : Int) ≠ 0) (hp : pos (l.take N) K = p) (hl : l.take p = l') :
    Calls Tryd.prog 46 #[.pointer (some ⟨D, 0, none⟩), .int .i64 left] w fun e w' => e = .returned (.tuple #[]) ∧ Solo w0 D l' p st has w' := by
  subst hl
  obtain ⟨h, rfl, h2, h3⟩ := h; exact (disk_tear h2 hf left K p N hN hup hne hp).mono (fun _ _ k => Solo.did rfl h3 h2 k)
theorem solo_snap (h : Solo w0 D l safe st has w) (hst : st.length ≤ 65536) :
    Calls Tryd.prog 47 #[.pointer (some ⟨D, 0, none⟩)] w fun e w' => ∃ v, e = .returned (.tuple #[v, .bool has]) ∧ OwnB w' w.heap.size v (snapL st has) ∧ Below w.heap.size w w' := by
  obtain ⟨h, rfl, h2, h3⟩ := h; exact disk_snap h2 hst

/-- A list of contents of the call's own. -/
def ListB (w : World) (B : Nat) (v : Value) (cs : List (List UInt8)) : Prop :=
  ∃ vs : List Value, vs.length = cs.length ∧ OwnT w B v vs ∧ ∀ i, i < cs.length → ∃ g gc, vs[i]? = some (.slice (some ⟨g, 0, none⟩) (tx cs i).length gc) ∧ OwnB w B (.slice (some ⟨g, 0, none⟩) (tx cs i).length gc) (tx cs i)
theorem ListB.below {B : Nat} {v : Value} {cs : List (List UInt8)} (h : ListB w B v cs) {w' : World} (hb : Below w.heap.size w w') : ListB w' B v cs := by
  obtain ⟨vs, h1, h2, h3⟩ := h
  refine ⟨vs, h1, h2.below hb, fun i hi => ?_⟩
  obtain ⟨g, gc, e1, e2⟩ := h3 i hi
  exact ⟨g, gc, e1, e2.below hb⟩
theorem ListB.vals {B : Nat} {v : Value} {cs : List (List UInt8)} (h : ListB w B v cs) : ∃ vs, vs.length = cs.length ∧ OwnT w B v vs ∧ Vals w vs cs := by
  obtain ⟨vs, h1, h2, h3⟩ := h
  refine ⟨vs, h1, h2, h1, fun i hi => ?_⟩
  obtain ⟨g, gc, e1, e2⟩ := h3 i hi
  obtain ⟨-, e3, e4⟩ := own_cap e2
  exact ⟨_, _, e1, e3, e4, (fun e => by cases e), e2.bytes⟩
theorem ListB.shape {B : Nat} {v : Value} {cs : List (List UInt8)} (h : ListB w B v cs) : ∃ A C, v = .slice A cs.length C ∧ cs.length ≤ C ∧ C ≤ maxLen ∧ (A = none → C = 0) ∧ TextsAt w A cs := by
  obtain ⟨vs, h1, h2, h3⟩ := h.vals
  by_cases hv : v = .slice none 0 0
  · subst hv
    have h0 : vs = [] := by
      rcases h2.2 with ⟨_, e⟩ | ⟨g, c, cur, e, _⟩
      · exact List.eq_nil_of_length_eq_zero e
      · cases e
    subst h0
    obtain rfl : cs = [] := List.eq_nil_of_length_eq_zero h1.symm
    exact ⟨none, 0, rfl, Nat.le_refl _, Nat.zero_le _, fun _ => rfl, .inl rfl⟩
  · obtain ⟨g, cap, e1, e2, e3, e4, e5⟩ := h2.opened hv
    subst e1
    refine ⟨_, cap, by rw [h1], by omega, e5, (fun e => by cases e), h2.texts h3⟩
theorem recs_list {cs : List (List UInt8)} (hall : ∀ i, i < cs.length → (tx cs i).length ≤ 65536) {e : Ending} {w' : World} (h : RecsTo w (joinB cs) e w') :
    ∃ v, e = .returned v ∧ ListB w' w.heap.size v cs ∧ Below w.heap.size w w' := by
  obtain ⟨v, xs, rfl, h1, h2, h3, h4, h5⟩ := h
  obtain ⟨-, hup, hne⟩ := join_chk cs hall
  have hlen := cnt_unique h3 h4 hup hne
  refine ⟨v, rfl, ⟨xs.map (·.v), by simp [hlen], h1, fun i hi => ?_⟩, h5⟩
  obtain ⟨x, hx⟩ : ∃ x, xs[i]? = some x := ⟨xs[i]'(by omega), List.getElem?_eq_getElem (by omega)⟩
  obtain ⟨k1, ⟨g, gc, k2⟩, k3⟩ := h2 i x hx
  have hc : x.c = tx cs i := by
    rw [k3, join_pos cs hall i (by omega)]
    exact (join_next cs i hi (hall i hi)).2.1
  rw [hc] at k1 k2
  refine ⟨g, gc, by rw [List.getElem?_map, hx, ← k2]; rfl, k2 ▸ k1⟩
theorem solo_records (h : Solo w0 D l safe st has w) (hf : Fours w) (cs : List (List UInt8)) (hl : joinB cs = l) (hall : ∀ i, i < cs.length → (tx cs i).length ≤ 65536) :
    Calls Tryd.prog 40 #[.pointer (some ⟨D, 0, none⟩)] w fun e w' => ∃ v, e = .returned v ∧ ListB w' w.heap.size v cs ∧ Below w.heap.size w w' := by
  subst hl
  obtain ⟨h, rfl, h2, h3⟩ := h; exact (disk_records h2 hf).mono (fun _ _ k => recs_list hall k)
end

def wk : List (List UInt8) := [[97], [98, 99], [100]]
theorem wk_1 : appL [] [97] = joinB [[97]] := by decide +kernel
theorem wk_2 : appL (joinB [[97]]) [98, 99] = joinB [[97], [98, 99]] := by decide +kernel
theorem wk_3 : appL (joinB [[97], [98, 99]]) [100] = joinB wk := by decide +kernel
theorem wk_e1 : appE [] [97] = 0 := by decide +kernel
theorem wk_e2 : appE (joinB [[97]]) [98, 99] = 0 := by decide +kernel
theorem wk_e3 : appE (joinB [[97], [98, 99]]) [100] = 0 := by decide +kernel
theorem wk_n1 : (joinB [[97]]).length = 9 := by decide +kernel
theorem wk_n2 : (joinB [[97], [98, 99]]).length = 19 := by decide +kernel
theorem wk_n3 : (joinB wk).length = 28 := by decide +kernel
theorem wk_t0 : 9 + tornN (joinB wk).length 9 18 = 27 := by decide +kernel
theorem wk_up : Upto ((joinB wk).take 27) 2 := by
  intro i hi
  match i, hi with
  | 0, _ => decide +kernel
  | 1, _ => decide +kernel
theorem wk_ne : nextE ((joinB wk).take 27) ((pos ((joinB wk).take 27) 2 : Nat) : Int) ≠ 0 := by decide +kernel
theorem wk_p : pos ((joinB wk).take 27) 2 = 19 := by decide +kernel
theorem wk_l : (joinB wk).take 19 = joinB [[97], [98, 99]] := by decide +kernel

theorem wk_two : ∀ i, i < ([[97], [98, 99]] : List (List UInt8)).length → (tx [[97], [98, 99]] i).length ≤ 65536 := by
  intro i hi
  match i, hi with
  | 0, _ => decide
  | 1, _ => decide
theorem OwnT.cells {w : World} {B n : Nat} {v : Value} {vs : List Value} (hn : vs.length = n) (h : OwnT w B v vs) : ∃ (g c : Nat) (A : Option Addr), v = .slice A n c ∧ ∀ i, i < n → A = some ⟨g, 0, none⟩ ∧ B ≤ g ∧ g < w.heap.size ∧ w.cell? ⟨g, i, none⟩ = vs[i]? := by
  subst hn
  rcases h.2 with ⟨h1, h2⟩ | ⟨g, cap, cur, h1, hB, hg, hn, hm, hs, ht⟩
  · exact ⟨0, 0, none, by rw [h1, h2], fun i hi => absurd hi (by rw [h2]; omega)⟩
  · refine ⟨g, cap, _, h1, fun i hi => ⟨rfl, hB, lt_of_blk hg, ?_⟩⟩
    rw [cell_blk hg, ← ht, List.getElem?_take, if_pos (by omega)]
    simp
theorem lit_bytes (w : World) (c : Array Value) (m : Nat × Nat) (l : List UInt8) (h : c.toList = l.map bv) : BytesAt (w.alloc (.cells c 5 m)) (some ⟨w.heap.size, 0, none⟩) l :=
  .inr ⟨_, _, rfl, lt_of_blk (lit_blk w c 5 m), fun i hi => by
    rw [Nat.zero_add, cell_blk (lit_blk w c 5 m)]
    have e := map_getD l i hi
    rw [← h] at e
    simpa [bv] using e⟩
set_option maxHeartbeats 1000000 in
theorem disk_works (w : World) (hf : Fours w) : Calls Tryd.prog 38 #[] w fun e w' => e = .returned (.bool true) ∧ Below w.heap.size w w' := by
  have kc := fun (w : World) (C : Array Value) (n c : Nat) => Lib.run_convert_bytes_const (P := Tryd.prog) w 22 5 C n c Tryd.underlying22 Tryd.underlying5
  have HF := Lib.hid hf
  clear hf
  go_enter Tryd.func38, Tryd.ntmps38
  go_wp2_with fail
  refine (solo_new _).mono ?_
  rintro e w1 ⟨rfl, h1⟩
  have H1 := Lib.hid h1
  clear h1
  go_wp2_with fail
  have hs1 := H1.out.below ((Below.refl _ w1).alloc (Nat.le_refl _) (.cells #[.int .u8 97] 5 (1, 2)))
  refine (solo_append hs1 (some ⟨w1.heap.size, 0, none⟩) [97] 1 1 0 _ rfl (by decide) (lit_bytes w1 _ _ _ rfl) (fun h => by cases h) (HF.out.below hs1.out) wk_e1 wk_1).mono ?_
  rintro e w2 ⟨rfl, h2⟩
  have H2 := Lib.hid h2
  clear h2 hs1
  go_wp2_with fail
  refine (solo_sync H2.out).mono ?_
  rintro e w3 ⟨rfl, h3⟩
  rw [wk_n1] at h3
  have H3 := Lib.hid h3
  clear h3
  go_wp2_with fail
  have hs3 := H3.out.below ((Below.refl _ w3).alloc (Nat.le_refl _) (.cells #[.int .u8 98, .int .u8 99] 5 (2, 3)))
  refine (solo_append hs3 (some ⟨w3.heap.size, 0, none⟩) [98, 99] 2 2 0 _ rfl (by decide) (lit_bytes w3 _ _ _ rfl) (fun h => by cases h) (HF.out.below hs3.out) wk_e2 wk_2).mono ?_
  rintro e w4 ⟨rfl, h4⟩
  have H4 := Lib.hid h4
  clear h4 hs3
  go_wp2_with fail
  have hs4 := H4.out.below ((Below.refl _ w4).alloc (Nat.le_refl _) (.cells #[.int .u8 100] 5 (1, 2)))
  refine (solo_append hs4 (some ⟨w4.heap.size, 0, none⟩) [100] 1 1 0 _ rfl (by decide) (lit_bytes w4 _ _ _ rfl) (fun h => by cases h) (HF.out.below hs4.out) wk_e3 wk_3).mono ?_
  rintro e w5 ⟨rfl, h5⟩
  have H5 := Lib.hid h5
  clear h5 hs4
  go_wp2_with fail
  refine (solo_len H5.out).mono ?_
  rintro e w' ⟨rfl, rfl⟩
  rw [wk_n3]
  go_wp2_with fail
  refine (solo_safe H5.out).mono ?_
  rintro e w' ⟨rfl, rfl⟩
  go_wp2_with fail
  refine (solo_tear H5.out (HF.out.below H5.out.out) 18 2 19 27 _ wk_t0 wk_up wk_ne wk_p wk_l).mono ?_
  rintro e w6 ⟨rfl, h6⟩
  have H6 := Lib.hid h6
  clear h6
  go_wp2_with fail
  refine (solo_records H6.out (HF.out.below H6.out.out) _ rfl wk_two).mono ?_
  rintro e w7 ⟨v, rfl, h7, hb7⟩
  have h7' := H6.out.below hb7
  obtain ⟨vs, e1, e2, e3⟩ := id h7
  obtain ⟨g, gc, e4, e5⟩ := e3 0 (by decide)
  obtain ⟨g', gc', e6, e7⟩ := e3 1 (by decide)
  obtain ⟨gv, gvc, A, rfl, hcs⟩ := OwnT.cells e1 e2
  obtain ⟨rfl, hgv0, hgv1, hc0⟩ := hcs 0 (by decide)
  have hc1 := (hcs 1 (by decide)).2.2.2
  rw [e4] at hc0
  rw [e6] at hc1
  have s0 := str_of w7 (some ⟨g, 0, none⟩) [97] 1 gc e5.bytes rfl
  have s1 := str_of w7 (some ⟨g', 0, none⟩) [98, 99] 2 gc' e7.bytes rfl
  change w7.cell? ⟨gv, 0, none⟩ = some (.slice (some ⟨g, 0, none⟩) 1 gc) at hc0
  change w7.cell? ⟨gv, 1, none⟩ = some (.slice (some ⟨g', 0, none⟩) 2 gc') at hc1
  rw [show ([[97], [98, 99]] : List (List UInt8)).length = 2 from rfl]
  have H7 := Lib.hid h7'
  clear h7 h7' hb7 e1 e2 e3 e4 e5 e6 e7 hcs
  go_wp2_with fail
  refine (solo_len H7.out).mono ?_
  rintro e w' ⟨rfl, rfl⟩
  rw [wk_n2]
  go_wp2_with fail
  refine (solo_safe H7.out).mono ?_
  rintro e w' ⟨rfl, rfl⟩
  clear hc0 hc1 s0 s1
  go_wp2_with fail
  have hs7 := H7.out.below ((Below.refl _ w7).alloc (Nat.le_refl _) (.cells #[.int .u8 115] 5 (1, 2)))
  refine (solo_save hs7 (some ⟨w7.heap.size, 0, none⟩) [115] 1 1 rfl (by decide) (lit_bytes w7 _ _ _ rfl) (fun h => by cases h)).mono ?_
  rintro e w8 ⟨rfl, h8⟩
  have H8 := Lib.hid h8
  clear h8 hs7
  go_wp2_with fail
  refine (solo_len H8.out).mono ?_
  rintro e w' ⟨rfl, rfl⟩
  go_wp2
  go_ret
  exact ⟨rfl, H8.out.out⟩
end Go.Proofs.YtconcmjmdhdgjaaDoor
