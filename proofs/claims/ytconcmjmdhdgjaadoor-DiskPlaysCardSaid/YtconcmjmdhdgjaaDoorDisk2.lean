/- The contracts of disk.Append, Save and Snapshot. -/
import Derived.Test.YtconcmjmdhdgjaaDoorDisk1
namespace Go.Proofs.YtconcmjmdhdgjaaDoor
open Go.RowKit

theorem wpList_append_row {w : World} {ops : Array Oper} {rest : List Oper} {o : Oper} {a : Act} {Q : Exit → Act → World → Prop} (hgd : o.guard = none) (s x : Operand)
    (ho : o.op = .call { callee := .builtin .append, args := #[s, x], argTypes := #[22, 22] })
    (B : Nat) (v : Value) (l m : List UInt8) (hs : a.eval s = v) (hrow : RowB w B v l) (ad : Addr) (n c : Nat) (hx : a.eval x = .slice (some ad) n c) (hn : m.length = n) (hn0 : 0 < n) (hm : BytesAt w (some ad) m)
    (hlen : l.length + m.length ≤ 140737488355328) (hB : B ≤ w.heap.size)
    (h : ∀ v' w', OwnB w' B v' (l ++ m) → w.grownBy w' v.ownBlock → (∀ b, v'.ownBlock = some b → v.ownBlock = some b ∨ w.heap.size ≤ b) → wpList Tryd.prog ops Q rest (a.put o.dst v') w') :
    wpList Tryd.prog ops Q (o :: rest) a w := by
  subst hn
  obtain ⟨i0, hi, hz0, hz1, hz2⟩ := info_parts Tryd.info5
  rcases hrow with hown | ⟨g, cur, hv, h1, h2, h3, h4, h5⟩
  · refine wpList_append_any hgd s x ho B v l m hs hown (some ad) _ c hx rfl hm (fun e => by cases e) hlen hB fun v' w' k1 k2 _ k4 => h v' w' k1 k2 fun b hb => ?_
    rcases k4 with k4 | k4
    · exact .inl (by rw [← k4]; exact hb)
    · rw [hb] at k4
      exact .inr (by cases k4; exact Nat.le_refl _)
  · refine wpList_plain hgd fun K hK => ?_
    have hrb : RowB w B v l := .inr ⟨g, cur, hv, h1, h2, h3, h4, h5⟩
    obtain ⟨A, C, hvA, _, _, _, hbA⟩ := hrb.any
    have hA : A = some ⟨g, 0, none⟩ := by rw [hv] at hvA; cases hvA; rfl
    rw [hA] at hbA
    obtain ⟨v', w', hr, k1, k2⟩ := run_append_arg_grows (P := Tryd.prog) w 22 o.type 5 i0 (.int .u8 0) 1 1 Tryd.underlying22 hi hz0 hz1 hz2 rfl (by decide) ⟨g, 0, none⟩ l.length l.length (l.map bv) (by simp) (bytes_cells hbA) ad m.length c (m.map bv) (by simp) (bytes_cells hm)
      (by omega) (by unfold maxLen; omega) (by omega)
    have k1' : OwnB w' w.heap.size v' (l ++ m) := by unfold OwnB; rw [List.length_append, List.map_append]; exact k1
    unfold Oper.wp execOp
    subst hv
    simp only [ho, resolve, invoke, builtin, Sem.run_bind, Sem.run_pure, Result.andThen_ok, List.map_toArray, List.map_cons, List.map_nil, hs, hx, hr]
    exact hK _ _ (h v' w' (k1'.mono hB) ⟨k2.os, k2.tape, k2.output, k2.size, fun k hk _ => k2.block k hk (by simp)⟩ fun b hb => .inr (own_ge k1' hb).1)

theorem Upd.of_grown {w w' : World} {row : Option Nat} (h : w.grownBy w' row) : Upd (fun b => row = some b) w w' := ⟨h.os, h.tape, h.output, h.size, fun b hb hF => h.block b hb (fun e => hF e.symm)⟩
theorem kind5_ne {w : World} {B b L : Nat} {v : Value} {l : List UInt8} {cs : Array Value} {t : TypeId} (h : RowB w B v l) (hb : v.ownBlock = some b) (hL : w.heap[L]? = some (.cells cs t)) (ht : t ≠ 5) : b ≠ L := by
  obtain ⟨cur, hk⟩ := h.kind hb
  rintro rfl
  rw [hk] at hL
  cases hL
  exact ht rfl

/-- What Append returns, and the bytes behind it. -/
def appE (l c : List UInt8) : Int := if 65536 < c.length then 11 else if 16777216 < l.length + (8 + c.length) then 4 else 0
def appL (l c : List UInt8) : List UInt8 := if 65536 < c.length then l else if 16777216 < l.length + (8 + c.length) then l else l ++ recB c

set_option maxHeartbeats 4000000 in
theorem disk_append {w : World} {B : Nat} {h : Dk} {l : List UInt8} {safe : Nat} {st : List UInt8} {has : Bool} (d : DiskAt w B h l safe st has) (a : Option Addr) (c : List UInt8) (n cap : Nat) (r : Int) (l' : List UInt8)
    (hn : c.length = n) (hm : n ≤ 140737488355328) (hb : BytesAt w a c) (hnc : a = none → cap = 0) (hf : Fours w) (hr : appE l c = r) (hl' : appL l c = l') :
    Calls Tryd.prog 43 #[.pointer (some ⟨h.D, 0, none⟩), .slice a n cap] w (Did w B h (.returned (.int .i64 r)) l' safe st has) := by
  have HO := Lib.hid (own_at d)
  have HM := Lib.hid (make_all a c n cap w hn hm hf hb hnc)
  have hle := d.len_le
  have hz := (d.foot_lt (.inr (.inl rfl))).2
  have hzB := (d.foot_lt (.inl rfl))
  by_cases hlong : 65536 < n
  · have hE : mkE c = 11 := by unfold mkE; rw [if_pos (by omega)]
    have hr' : r = 11 := by rw [← hr]; unfold appE; rw [if_pos (by omega)]
    have hll : l' = l := by rw [← hl']; unfold appL; rw [if_pos (by omega)]
    subst hr' hll
    have HD := Lib.hid (And.intro d hE)
    clear d hn hb hnc hf hr hl' hE
    go_enter Tryd.func43, Tryd.ntmps43
    go_wp2_with (first
      | (go_at_call 74; refine HO.out.mono ?_; rintro e w' ⟨rfl, rfl⟩)
      | (go_at_call 21; refine HM.out.mono ?_; rintro e w1 ⟨v1, rfl, hown1, hb1⟩; rw [HD.out.2]; have H1 := Lib.hid hb1; clear hown1 hb1))
    go_ret
    exact ⟨rfl, h, rfl, HD.out.1.below H1.out, .of_below H1.out, fun b hb => .inl hb⟩
  · have hE : mkE c = 0 := by unfold mkE; rw [if_neg (by omega)]
    have hMB : mkB c = recB c := by unfold mkB; rw [if_neg (by omega)]
    have hrl := recB_len c
    by_cases hfull : 16777216 < l.length + (8 + n)
    · have hr' : r = 4 := by rw [← hr]; unfold appE; rw [if_neg (by omega), if_pos (by omega)]
      have hll : l' = l := by rw [← hl']; unfold appL; rw [if_neg (by omega), if_pos (by omega)]
      subst hr' hll
      obtain ⟨A, C, hv, -⟩ := d.row.any
      have HD := Lib.hid (And.intro d (And.intro hE (And.intro hMB (And.intro hrl hn))))
      have k0 := d.blkL
      clear d hn hb hnc hf hr hl' hE hMB hrl
      go_enter Tryd.func43, Tryd.ntmps43
      go_wp2_with (first
        | (go_at_call 74; refine HO.out.mono ?_; rintro e w' ⟨rfl, rfl⟩)
        | (go_at_call 21; refine HM.out.mono ?_; rintro e w1 ⟨v1, rfl, hown1, hb1⟩
           rw [HD.out.2.1]
           rw [HD.out.2.2.1] at hown1
           obtain ⟨A1, C1, rfl, -⟩ := hown1.any
           rw [HD.out.2.2.2.1, HD.out.2.2.2.2]
           have c0 := cell_blk (blk_below' k0 hb1) 0
           rw [hv] at c0
           simp at c0
           have H1 := Lib.hid hb1
           clear hown1 hb1))
      go_ret
      exact ⟨rfl, h, rfl, HD.out.1.below H1.out, .of_below H1.out, fun b hb => .inl hb⟩
    · have hr' : r = 0 := by rw [← hr]; unfold appE; rw [if_neg (by omega), if_neg (by omega)]
      have hll : l' = l ++ recB c := by rw [← hl']; unfold appL; rw [if_neg (by omega), if_neg (by omega)]
      subst hr' hll
      obtain ⟨A, C, hv, -⟩ := d.row.any
      have HD := Lib.hid (And.intro d (And.intro hE (And.intro hMB (And.intro hrl hn))))
      have k0 := d.blkL
      clear d hn hb hnc hf hr hl' hE hMB hrl
      go_enter Tryd.func43, Tryd.ntmps43
      go_wp2_with (first
        | (go_at_call 74; refine HO.out.mono ?_; rintro e w' ⟨rfl, rfl⟩)
        | (go_at_call 21; refine HM.out.mono ?_; rintro e w1 ⟨v1, rfl, hown1, hb1⟩
           rw [HD.out.2.1]
           rw [HD.out.2.2.1] at hown1
           obtain ⟨g1, C1, rfl, hg1, -⟩ := hown1.some (by
             rintro rfl
             rcases hown1.shape with ⟨_, e⟩ | ⟨_, _, e, _⟩
             · have := HD.out.2.2.2.1; rw [e] at this; simp at this; omega
             · cases e)
           have hk := blk_below' k0 hb1
           have c0 := cell_blk hk 0
           have f0 := free_blk hk 0
           rw [hv] at c0
           simp at c0
           have hz1 := hb1.size
           have H1 := Lib.hid (And.intro hown1 hb1)
           rw [HD.out.2.2.2.1, HD.out.2.2.2.2]
           clear hown1 hb1 hk)
        | (at_builtin; refine wpList_append_row rfl _ _ rfl B (.slice A l.length C) l (recB c) rfl (hv ▸ (HD.out.1.below H1.out.2).row) ⟨g1, 0, none⟩ (8 + n) C1 rfl (by rw [HD.out.2.2.2.1, HD.out.2.2.2.2]) (by omega) H1.out.1.bytes' (by rw [HD.out.2.2.2.1, HD.out.2.2.2.2]; omega) (by omega) ?_
           intro v2 w2 hown2 hg2 hb2
           obtain ⟨A2, C2, hv2, -⟩ := hown2.any
           subst hv2
           generalize (l ++ recB c).length = N2 at *
           have hk2 : w2.heap[h.L]? = some (.cells #[h.vb, .int .i64 (safe : Int)] 100) := grow_blk hg2 (blk_below' k0 H1.out.2) (fun e => ((HD.out.1.vb_ne (b := h.L) (by rw [hv]; exact e.symm)).2 rfl))
           have c2 := cell_blk hk2 0
           have f2 := free_blk hk2 0
           simp at c2
           have H2 := Lib.hid (And.intro hown2 (And.intro hg2 (And.intro hb2 hk2)))
           clear hown2 hg2 hb2 hk2))
      go_ret
      obtain ⟨d, -, -, hrl, hn⟩ := HD.out
      obtain ⟨hown1, hb1⟩ := H1.out
      obtain ⟨hown2, hg2, hb2, hk2⟩ := H2.out
      have d1 := d.below hb1
      have hvb : h.vb.ownBlock = (Value.slice A l.length C).ownBlock := by rw [hv]
      rw [← hvb] at hg2 hb2
      have hU2 := Upd.of_grown hg2
      have hD2 := hU2.blk d1.blkD (fun e => (d1.vb_ne e).1 rfl)
      have hs2 := own_upd d1.state hU2 (fun b hb e => d1.sep b e hb)
      refine ⟨rfl, ⟨h.D, h.L, .slice A2 N2 C2, h.vs⟩, rfl, ⟨d.geD, d.geL, blk_other hD2 _ _ d.D_ne_L, by simpa using blk_set hk2 0 (.slice A2 N2 C2), ?_, ?_, ?_, ?_, ?_⟩, ?_, ?_⟩
      · exact .inl (own_other hown2 _ _ (fun e => kind5_ne (.inl hown2) e hk2 (by decide) rfl))
      · exact own_other hs2 _ _ (fun e => kind5_ne (.inl hs2) e hk2 (by decide) rfl)
      · intro b hb e
        rcases hb2 b hb with k | k
        · exact d.sep b k e
        · have := (own_ge d.state e).2
          have := hb1.size
          omega
      · have := d.safe_le; rw [List.length_append]; omega
      · rw [List.length_append, hrl, hn]; omega
      · exact ((Upd.of_below hb1).trans hU2 (fun x hx => .inl (.inr (.inr (.inl hx))))).setCell _ _ (.inl (.inr (.inl rfl)))
      · rintro b (k | k | k | k)
        · exact .inl (.inl k)
        · exact .inl (.inr (.inl k))
        · rcases hb2 b k with k | k
          · exact .inl (.inr (.inr (.inl k)))
          · exact .inr (by have := hb1.size; omega)
        · exact .inl (.inr (.inr (.inr k)))
end Go.Proofs.YtconcmjmdhdgjaaDoor
