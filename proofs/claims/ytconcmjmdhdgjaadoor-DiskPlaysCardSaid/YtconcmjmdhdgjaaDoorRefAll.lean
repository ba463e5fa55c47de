/- The contracts of skaldref04.Next, joined, All, Cut and Check. -/
import Derived.Test.YtconcmjmdhdgjaaDoorRefNext2
import Derived.Test.YtconcmjmdhdgjaaDoorCut
namespace Go.Proofs.YtconcmjmdhdgjaaDoor
open Go.RowKit

theorem rnext_no (a : Option Addr) (l : List UInt8) (cap n : Nat) (i r : Int) (w : World) (hn : l.length = n) (hm : n ≤ 140737488355328) (hcap : n ≤ cap) (hcm : cap ≤ maxLen) (hb : BytesAt w a l) (hr : nextE l i = r) (hE : r ≠ 0) :
    Calls Tryd.prog 30 #[.slice a n cap, .int .i64 i] w fun e w' => e = .returned (.tuple #[.agg #[.int .i64 0, .slice none 0 0], .int .i64 0, .int .i64 r]) ∧ Below w.heap.size w w' := by
  subst hr
  by_cases h : i < 0 ∨ (n : Int) < i ∨ (n : Int) = i ∨ (n : Int) - i < 8
  · exact rnext_early a l n cap i w hn hm h
  · obtain ⟨k, rfl⟩ : ∃ k : Nat, i = k := ⟨i.toNat, by omega⟩
    have hk : k + 8 ≤ n := by omega
    obtain ⟨b, off, rfl⟩ : ∃ b off, a = some ⟨b, off, none⟩ := by
      rcases hb with rfl | ⟨b, off, h1, _⟩
      · simp at hn; omega
      · exact ⟨b, off, h1⟩
    by_cases h1 : 65536 < be4 l k ∨ n < k + 8 + be4 l k
    · have e : nextE l (k : Int) = 10 := by
        unfold nextE
        rw [if_neg (by omega), if_neg (by omega), if_neg (by omega), Int.toNat_natCast, if_pos (by omega)]
      rw [e]
      exact rnext_late b off l cap k n w hn hm hcap hcm hb hk h1
    · have h2 : ¬ crcV (cont l k) = be4 l (k + 4) := fun hc => hE (nextE_ok (by omega) (by omega) hc)
      have e : nextE l (k : Int) = 13 := by
        unfold nextE
        rw [if_neg (by omega), if_neg (by omega), if_neg (by omega), Int.toNat_natCast, if_neg (by omega), if_neg h2]
      rw [e]
      refine (rnext_found b off l cap k n (be4 l k) w hn hm hcap hcm hb rfl (by omega) (by omega)).mono ?_
      intro e w' h
      unfold SumTo at h
      rw [if_neg h2] at h
      exact h
theorem rnext_yes (a : Option Addr) (l : List UInt8) (cap k n len : Nat) (c : List UInt8) (w : World) (hlen : l.length = len) (hn : be4 l k = n) (hc : cont l k = c)
    (hm : len ≤ 140737488355328) (hcap : len ≤ cap) (hcm : cap ≤ maxLen) (hb : BytesAt w a l) (hE : nextE l (k : Int) = 0) :
    Calls Tryd.prog 30 #[.slice a len cap, .int .i64 (k : Int)] w (NextV w (k : Int) ((k : Int) + 8 + n) n c) := by
  obtain ⟨k', hk, h1, h2, h3⟩ := nextE_zero hE
  obtain rfl : k' = k := by omega
  obtain ⟨b, off, rfl⟩ : ∃ b off, a = some ⟨b, off, none⟩ := by
    rcases hb with rfl | ⟨b, off, h1, _⟩
    · simp at h1
    · exact ⟨b, off, h1⟩
  refine (rnext_found b off l cap k' len n w hlen hm hcap hcm hb hn (by omega) (by omega)).mono ?_
  intro e w' h
  unfold SumTo at h
  rw [if_pos (of_decide_eq_true h3), hc] at h
  exact h

theorem Tryd.info44 : (Tryd.prog.info? 44).map (fun i => (i.zero, i.size, i.bytes)) = some (some (.agg #[.int .i64 0, .slice none 0 0]), 2, 32) := by kernel_rfl
/-- A list of the document's records in memory that is made from block B on. -/
def RRecList (W : World) (B : Nat) (l : List UInt8) (v : Value) (xs : List Rec) : Prop :=
  W.ownsRow B 44 2 v xs.length (xs.flatMap (recCells l)) ∧ ∀ i, i < xs.length → ∃ x, xs[i]? = some x ∧ x.at_ = pos l i ∧ OwnB W B (recSlice l x) (cont l x.at_)
theorem RRecList.below {W W' : World} {B : Nat} {l : List UInt8} {v : Value} {xs : List Rec} (h : RRecList W B l v xs) (hb : Below W.heap.size W W') : RRecList W' B l v xs :=
  ⟨row_below h.1 hb, fun i hi => by obtain ⟨x, h1, h2, h3⟩ := h.2 i hi; exact ⟨x, h1, h2, h3.below hb⟩⟩
theorem own_ne_rowE {w : World} {e : TypeId} {base base' : Nat} {size n : Nat} {v v' : Value} {xs : List Value} {l : List UInt8} (he : e ≠ 5) (h : w.ownsRow base e size v n xs) (hc : OwnB w base' v' l) : v'.ownBlock = none ∨ v'.ownBlock ≠ v.ownBlock := by
  rcases hc.2 with ⟨rfl, _⟩ | ⟨g, cap, cur, rfl, _, hg, _⟩
  · exact .inl rfl
  · refine .inr fun e' => ?_
    rcases h.2 with ⟨rfl, _⟩ | ⟨g', cap', cur', rfl, _, hg', _⟩
    · simp [Value.ownBlock] at e'
    · simp [Value.ownBlock] at e'
      subst e'
      rw [hg] at hg'
      cases hg'
      exact he rfl
theorem OwnB.grown {w w' : World} {B : Nat} {v : Value} {l : List UInt8} {row : Option Nat} (h : OwnB w B v l) (hg : w.grownBy w' row) (hne : v.ownBlock = none ∨ v.ownBlock ≠ row) : OwnB w' B v l := by
  refine ⟨h.1, ?_⟩
  rcases h.2 with hn | ⟨g, cap, cur, hv, hB, hb, r⟩
  · exact .inl hn
  · refine .inr ⟨g, cap, cur, hv, hB, grow_blk hg hb (fun e => ?_), r⟩
    rcases hne with e' | e'
    · rw [hv] at e'; simp [Value.ownBlock] at e'
    · rw [hv] at e'; exact e' e

theorem cells_new3 (w : World) (o : Obj) (x y : Value) (t : TypeId) : ∀ j u, [x, y][j]? = some u → ((w.alloc o).alloc (.cells #[x, y] t)).cell? ((⟨w.heap.size + 1, 0, none⟩ : Addr).add j) = some u := by
  have := cells_new2 (w.alloc o) x y t
  rw [World.size_alloc] at this
  exact this

def RAllTo (w : World) (l : List UInt8) (e : Ending) (w' : World) : Prop :=
  ∃ (xs : List Rec) (v : Value), e = .returned (.tuple #[v, .int .i64 ((pos l xs.length : Nat) : Int)]) ∧ RRecList w' w.heap.size l v xs ∧ Upto l xs.length ∧ nextE l ((pos l xs.length : Nat) : Int) ≠ 0 ∧ Below w.heap.size w w'

set_option maxRecDepth 20000 in
set_option maxHeartbeats 4000000 in
theorem rall_any (a : Option Addr) (l : List UInt8) (N cap : Nat) (w : World) (hN : l.length = N) (hm : N ≤ 1073741824) (hcap : N ≤ cap) (hcm : cap ≤ maxLen) (hb : BytesAt w a l) :
    Calls Tryd.prog 31 #[.slice a N cap] w (RAllTo w l) := by
  have HF := Lib.hid (And.intro hb (And.intro hN hcm))
  clear hb hN hcm
  go_enter Tryd.func31, Tryd.ntmps31
  go_wp2
  go_loopw [4, 5] (fun out at_ wr => ∃ pre : List Rec, at_ = .int .i64 ((pos l pre.length : Nat) : Int) ∧ Upto l pre.length ∧ RRecList wr w.heap.size l out pre ∧ Below w.heap.size w wr) (fun _ i _ => N - (intOf i).toNat)
  case atStart => exact ⟨[], rfl, fun i hi => by simp at hi, ⟨World.ownsRow_nil _ _ _ _, fun i hi => by simp at hi⟩, Below.refl _ _⟩
  case round =>
    obtain ⟨pre, rfl, hup, hrl, hB⟩ := hrel
    have hple := pos_le hup
    have hlen := len_pos l pre.length
    rw [HF.out.2.1] at hple
    obtain ⟨m, hmm⟩ : ∃ m, pre.length = m := ⟨_, rfl⟩
    rw [hmm] at hup hple hlen ⊢
    by_cases hE : nextE l ((pos l m : Nat) : Int) = 0
    · obtain ⟨k', hk', hp1, hp2, _⟩ := nextE_zero hE
      obtain rfl : pos l m = k' := by omega
      have hps : pos l (m + 1) = pos l m + 8 + be4 l (pos l m) := rfl
      obtain ⟨p, hp⟩ : ∃ p, pos l m = p := ⟨_, rfl⟩
      rw [hp] at hE hp1 hp2 hps hple hlen ⊢
      obtain ⟨n, hn⟩ : ∃ n, be4 l p = n := ⟨_, rfl⟩
      obtain ⟨c, hc⟩ : ∃ c, cont l p = c := ⟨_, rfl⟩
      rw [hn] at hp1 hp2 hps
      rw [HF.out.2.1] at hp1
      have HN := Lib.hid (rnext_yes a l cap p n N c wr HF.out.2.1 hn hc (by omega) hcap HF.out.2.2 (HF.out.1.below hB) hE)
      have HR := Lib.hid (And.intro hrl (And.intro hB (And.intro hup (And.intro hmm (And.intro hp (And.intro hn (And.intro hc (And.intro hE hps))))))))
      clear hrl hB hup hmm hp hn hc hE hps hk'
      go_wp2_with fail
      refine HN.out.mono ?_
      rintro e w1 ⟨g, gc, rfl, hown, hb1⟩
      obtain ⟨i0, hi, hz0, hz1, hzb⟩ := info_parts Tryd.info44
      have HI := Lib.hid (And.intro hi (And.intro hz0 (And.intro hz1 hzb)))
      have hrl1 := HR.out.1.below hb1
      have H1 := Lib.hid (And.intro hown (And.intro hrl1 (belowStep HR.out.2.1 hb1)))
      have hs1 := (belowStep HR.out.2.1 hb1).size
      clear hown hb1 hi hz0 hz1 hzb hrl1
      have hrow := H1.out.2.1.1
      rw [HR.out.2.2.2.1] at hrow
      have HW := Lib.hid hrow
      clear hrow
      go_wp2_with (at_builtin; (refine wpList_append_own (P := Tryd.prog) _ rfl _ _ 47 rfl w.heap.size 44 i0 _ 2 32 Tryd.underlying47 HI.out.1 HI.out.2.1 HI.out.2.2.1 HI.out.2.2.2 rfl (by decide) _ m (pre.flatMap (recCells l)) rfl ((HW.out.alloc _).alloc _) ⟨w1.heap.size + 1, 0, none⟩ 1 1 [.int .i64 (p : Int), .slice (some ⟨g, 0, none⟩) n gc] rfl rfl (cells_new3 _ _ _ _ _) (by simp [Value.oneCell']) (by unfold maxLen; omega) (by omega) (by simp; omega) ?_); intro v2 w2 hown2 hg2 hn2)
      obtain ⟨-, hB, hup, hmm, hp, hn, hc, hE, hps⟩ := HR.out
      have hlenE : (pre ++ [(⟨p, g, gc⟩ : Rec)]).length = m + 1 := by rw [List.length_append, hmm]; rfl
      have hposE : pos l (m + 1) = p + 8 + n := by rw [hps]
      have hBA : Below w.heap.size w ((w1.alloc (.cells #[.int .i64 (p : Int), .slice (some ⟨g, 0, none⟩) n gc] 44)).alloc (.cells #[.int .i64 (p : Int), .slice (some ⟨g, 0, none⟩) n gc] 44)) := (H1.out.2.2.alloc hs1 _).alloc (by simp; omega) _
      refine ⟨⟨pre ++ [(⟨p, g, gc⟩ : Rec)], ?_, ?_, ⟨?_, ?_⟩, ?_⟩, ?_⟩
      · rw [hlenE, hposE]; exact congrArg (Value.int .i64) (by omega)
      · rw [hlenE]; exact hup.snoc (by rw [hp]; exact hE)
      · have e : (pre ++ [(⟨p, g, gc⟩ : Rec)]).flatMap (recCells l) = pre.flatMap (recCells l) ++ [.int .i64 (p : Int), .slice (some ⟨g, 0, none⟩) n gc] := by
          simp [recCells, recSlice, hn]
        rw [e, hlenE]
        exact hown2
      · intro i hi
        have hkeep : ∀ {x : Value} {t : List UInt8} {B : Nat}, OwnB w1 B x t → OwnB w2 B x t := by
          intro x t B h
          have h2 : OwnB ((w1.alloc (.cells #[.int .i64 (p : Int), .slice (some ⟨g, 0, none⟩) n gc] 44)).alloc (.cells #[.int .i64 (p : Int), .slice (some ⟨g, 0, none⟩) n gc] 44)) B x t := h.below (((Below.refl _ _).alloc (Nat.le_refl _) _).alloc (by simp) _)
          exact h2.grown hg2 (own_ne_rowE (by decide) ((HW.out.alloc _).alloc _) h2)
        by_cases h : i < m
        · obtain ⟨x, y1, y2, y3⟩ := H1.out.2.1.2 i (by rw [hmm]; exact h)
          exact ⟨x, by rw [List.getElem?_append_left (by rw [hmm]; exact h)]; exact y1, y2, hkeep y3⟩
        · have hi' : i = m := by rw [hlenE] at hi; omega
          subst hi'
          refine ⟨⟨p, g, gc⟩, by rw [List.getElem?_append_right (by omega), hmm]; simp, hp.symm, ?_⟩
          unfold recSlice
          simp only
          rw [hn, hc]
          exact (hkeep H1.out.1).mono (by have := hB.size; omega)
      · exact hBA.grown hg2 hBA.size (fun k hk => (HW.out.lt k hk).1)
      · simp [intOf]; omega
    · obtain ⟨r, hr⟩ : ∃ r, nextE l ((pos l m : Nat) : Int) = r := ⟨_, rfl⟩
      rw [hr] at hE
      have HR := Lib.hid (And.intro hrl (And.intro hB (And.intro hup (And.intro hmm (And.intro hr hE)))))
      have HN := Lib.hid (rnext_no a l cap N _ r wr HF.out.2.1 (by omega) hcap HF.out.2.2 (HF.out.1.below hB) hr hE)
      clear hrl hB hup hmm hr
      go_wp2_with fail
      refine HN.out.mono ?_
      rintro e w1 ⟨rfl, hb1⟩
      have H1 := Lib.hid hb1
      clear hb1
      go_wp2
      go_ret2
      refine ⟨pre, _, ?_, HR.out.1.below (H1.out.alloc H1.out.size _), ?_, ?_, belowStep HR.out.2.1 (H1.out.alloc H1.out.size _)⟩
      · rw [HR.out.2.2.2.1]; rfl
      · rw [HR.out.2.2.2.1]; exact HR.out.2.2.1
      · rw [HR.out.2.2.2.1, HR.out.2.2.2.2.1]; exact HR.out.2.2.2.2.2

theorem RRecList.shape {W : World} {B : Nat} {l : List UInt8} {v : Value} {xs : List Rec} (h : RRecList W B l v xs) : ∃ A C, v = .slice A xs.length C := by
  rcases h.1.2 with ⟨h1, h2⟩ | ⟨g, c, cur, h1, _⟩
  · exact ⟨none, 0, by rw [h1, h2]⟩
  · exact ⟨_, _, h1⟩

set_option maxHeartbeats 1000000 in
theorem rcut_range (a : Option Addr) (n cap : Nat) (i : Int) (w : World) (h : i < 0 ∨ (n : Int) < i) (hm : n ≤ 1073741824) :
    Calls Tryd.prog 33 #[.slice a n cap, .int .i64 i] w fun e w' => e = .returned (.tuple #[.int .i64 0, .int .i64 3]) ∧ w = w' := by
  by_cases h0 : i < 0
  · go_enter Tryd.func33, Tryd.ntmps33
    go_wp2
    go_ret2
    exact ⟨rfl, rfl⟩
  · have h1 : (n : Int) < i := by omega
    go_enter Tryd.func33, Tryd.ntmps33
    go_wp2
    go_ret2
    exact ⟨rfl, rfl⟩

set_option maxHeartbeats 1000000 in
theorem rcut_any (a : Option Addr) (l t : List UInt8) (n i cap : Nat) (w : World) (hn : l.length = n) (hi : i ≤ n) (ht : l.take i = t) (hm : n ≤ 1073741824) (hcap : n ≤ cap) (hcm : cap ≤ maxLen) (hb : BytesAt w a l) :
    Calls Tryd.prog 33 #[.slice a n cap, .int .i64 (i : Int)] w (CutTo w t) := by
  have htl : t.length = i := by rw [← ht, List.length_take]; omega
  have hbt : BytesAt w a t := by rw [← ht]; exact hb.take i
  have hcm' : cap ≤ 9223372036854775807 := hcm
  have HA := Lib.hid (rall_any a t i cap w htl (by omega) (by omega) hcm hbt)
  clear hb ht hn hcm htl hbt
  go_enter Tryd.func33, Tryd.ntmps33
  go_wp2_with fail
  refine HA.out.mono ?_
  rintro e w1 ⟨xs, v, rfl, hrl, hup, hne, hbl⟩
  obtain ⟨A, C, rfl⟩ := hrl.shape
  have H1 := Lib.hid (And.intro hup (And.intro hne hbl))
  clear hrl hup hne hbl
  go_wp2
  go_ret2
  exact ⟨xs.length, rfl, H1.out.1, H1.out.2.1, H1.out.2.2⟩

set_option maxHeartbeats 1000000 in
theorem rcheck_any (a : Option Addr) (l : List UInt8) (n cap : Nat) (w : World) (hn : l.length = n) (hm : n ≤ 1073741824) (hcap : n ≤ cap) (hcm : cap ≤ maxLen) (hb : BytesAt w a l) :
    Calls Tryd.prog 36 #[.slice a n cap] w (ChkTo w l) := by
  have HF := Lib.hid (And.intro hb (And.intro hn hcm))
  clear hb hn hcm
  go_enter Tryd.func36, Tryd.ntmps36
  go_wp2_with fail
  refine (rall_any a l n cap w HF.out.2.1 hm hcap HF.out.2.2 HF.out.1).mono ?_
  rintro e w1 ⟨xs, v, rfl, hrl, hup, hne, hbl⟩
  obtain ⟨A, C, rfl⟩ := hrl.shape
  have hple := pos_le hup
  obtain ⟨r, hr⟩ : ∃ r, nextE l ((pos l xs.length : Nat) : Int) = r := ⟨_, rfl⟩
  have hr5 : (r = 5 ↔ pos l xs.length = n) := by
    have := nextE_five hple
    rw [hr, HF.out.2.1] at this
    have h2 := decide_eq_decide.1 this
    rw [h2]; omega
  have hch : chkE l xs.length = if r = 5 then 0 else r := by unfold chkE; rw [hr]
  rw [hr] at hne
  obtain ⟨p, hp⟩ : ∃ p, pos l xs.length = p := ⟨_, rfl⟩
  rw [hp] at hr5 hr ⊢
  have H1 := Lib.hid (And.intro hup (And.intro hne (And.intro hbl (And.intro hr (And.intro hch hp)))))
  clear hrl hup hne hbl hr hch hp hple
  by_cases h5 : r = 5
  · obtain rfl := hr5.1 h5
    go_wp2
    go_ret
    exact ⟨xs.length, by rw [H1.out.2.2.2.2.1, if_pos h5]; rfl, H1.out.1, by rw [H1.out.2.2.2.2.2, H1.out.2.2.2.1]; exact H1.out.2.1, H1.out.2.2.1⟩
  · have hpn : ¬ p = n := fun h => h5 (hr5.2 h)
    have hpi : ((p : Int) == (n : Int)) = false := by rw [beq_eq_false_iff_ne]; omega
    have hpi2 : ¬ (p : Int) = (n : Int) := by omega
    go_wp2_with fail
    refine (rnext_no a l cap n _ r w1 HF.out.2.1 (by omega) hcap HF.out.2.2 (HF.out.1.below H1.out.2.2.1) H1.out.2.2.2.1 H1.out.2.1).mono ?_
    rintro e w2 ⟨rfl, hb2⟩
    have H2 := Lib.hid (belowStep H1.out.2.2.1 (hb2.alloc hb2.size (.cells #[.int .i64 0, .slice none 0 0] 44)))
    clear hb2
    go_wp2
    go_ret
    exact ⟨xs.length, by rw [H1.out.2.2.2.2.1, if_neg h5]; rfl, H1.out.1, by rw [H1.out.2.2.2.2.2, H1.out.2.2.2.1]; exact H1.out.2.1, H2.out⟩
end Go.Proofs.YtconcmjmdhdgjaaDoor
