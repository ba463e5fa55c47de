/- The contract of frame.whole's closure: the iterator over the whole records at the beginning. -/
import Derived.Test.YtconcmjmdhdgjaaDoorNext3
import Derived.Test.YtconcmjmdhdgjaaDoorRange
namespace Go.Proofs.YtconcmjmdhdgjaaDoor
open Go.RowKit
attribute [local go_sem] Oper.semAt_some

/-- Where the record with a number begins, as long as there are records. -/
def pos (l : List UInt8) : Nat → Nat
  | 0 => 0
  | i + 1 => pos l i + 8 + be4 l (pos l i)

/-- A record that was found: where it begins, the block of its content, and the capacity there. -/
structure Rec where
  at_ : Nat
  g : Nat
  cap : Nat

def recSlice (l : List UInt8) (x : Rec) : Value := .slice (some ⟨x.g, 0, none⟩) (be4 l x.at_) x.cap
def recAgg (l : List UInt8) (x : Rec) : Value := .agg #[.int .i64 ((x.at_ : Nat) : Int), recSlice l x]
def recEnc (l : List UInt8) (x : Rec) : Array Value := #[.int .i64 ((x.at_ + 8 + be4 l x.at_ : Nat) : Int), recAgg l x]
/-- The records up to a number are there. -/
def Upto (l : List UInt8) (n : Nat) : Prop := ∀ i, i < n → nextE l ((pos l i : Nat) : Int) = 0
def RecOk (l : List UInt8) (B : Nat) (pre : List Rec) (x : Rec) (W : World) : Prop :=
  x.at_ = pos l pre.length ∧ nextE l ((pos l pre.length : Nat) : Int) = 0 ∧ Upto l pre.length ∧ OwnB W B (recSlice l x) (cont l x.at_)
def RecEnd (l : List UInt8) (xs : List Rec) (_ : World) : Prop := Upto l xs.length ∧ nextE l ((pos l xs.length : Nat) : Int) ≠ 0
def RecStop (l : List UInt8) (xs : List Rec) (_ : World) : Prop := Upto l xs.length
/-- What the iterator reads. -/
def WholeInv (bx : Nat) (a : Option Addr) (l : List UInt8) (cap : Nat) (W : World) : Prop :=
  W.cell? ⟨bx, 0, none⟩ = some (.slice a l.length cap) ∧ BytesAt W a l ∧ Fours W

theorem pos_le {l : List UInt8} {n : Nat} (h : Upto l n) : pos l n ≤ l.length := by
  cases n with
  | zero => exact Nat.zero_le _
  | succ n =>
    obtain ⟨k, hk, h1, _⟩ := nextE_zero (h n (by omega))
    obtain rfl : pos l n = k := by omega
    exact h1
theorem Upto.snoc {l : List UInt8} {n : Nat} (h : Upto l n) (h' : nextE l ((pos l n : Nat) : Int) = 0) : Upto l (n + 1) := by
  intro i hi
  by_cases e : i = n
  · subst e; exact h'
  · exact h i (by omega)

set_option maxHeartbeats 2000000 in
theorem whole_it (l : List UInt8) (a : Option Addr) (cap bx lp : Nat) (J Jx : List Rec → World → Prop) (W : World) (hm : l.length ≤ 140737488355328) (hcap : l.length ≤ cap) (hcm : cap ≤ maxLen)
    (hJ : ∀ s W W', J s W → Below W.heap.size W W' → J s W') (_hJx : ∀ s W W', Jx s W → Below W.heap.size W W' → Jx s W') (hI : ∀ s W, J s W → WholeInv bx a l cap W) (B : Nat) (hB : ∀ s W, J s W → B ≤ W.heap.size)
    (hY : YieldsTo Tryd.prog lp (recEnc l) (RecOk l B) J Jx) (h0 : J [] W) :
    Calls Tryd.prog 81 #[.func (.yield lp) #[] #[], .pointer (some ⟨bx, 0, none⟩)] W (IterEnd J Jx (RecEnd l) (RecStop l)) := by
  refine (callsIn_wide (n := 9)).1 (callsIn_of_wp Tryd.func81 rfl trivial ?_ rfl)
  simp only [Tryd.ntmps81, List.size_toArray, List.length_cons, List.length_nil, Nat.reduceAdd, Nat.reduceSub, Array.replicate_succ, Array.replicate_zero, List.push_toArray, List.append_toArray, List.nil_append, List.cons_append]
  gi_wp2
  gi_loopw [3] (fun i wr => ∃ pre : List Rec, i = .int .i64 ((pos l pre.length : Nat) : Int) ∧ Upto l pre.length ∧ J pre wr) (fun i _ => l.length - (intOf i).toNat)
  case atStart => exact ⟨[], rfl, fun i hi => by simp at hi, h0⟩
  case round =>
    obtain ⟨pre, rfl, hup, hj⟩ := hrel
    obtain ⟨hc, hb, hf⟩ := hI _ _ hj
    have hple := pos_le hup
    by_cases hE : nextE l ((pos l pre.length : Nat) : Int) = 0
    · have HN := Lib.hid (next_yes a l cap (pos l pre.length) wr hm hcap hcm hf hb hE)
      have HU := Lib.hid hup
      have HE := Lib.hid hE
      have HJ := Lib.hid hj
      clear hE hb hf hup hj
      obtain ⟨p, hp⟩ : ∃ p, pos l pre.length = p := ⟨_, rfl⟩
      rw [hp] at HN hple ⊢
      have HP := Lib.hid hp
      clear hp
      gi_wp2_with fail
      refine ⟨trivial, (callsIn_wide.2 HN.out).mono ?_⟩
      rintro e w1 ⟨g, gc, rfl, hown, hbl⟩
      unfold nextYes
      have hz := hbl.size
      have hj2 : J pre (w1.alloc (.cells #[.int .i64 (p : Int), .slice (some ⟨g, 0, none⟩) (be4 l p) gc] 31)) :=
        hJ _ _ _ (hJ _ _ _ HJ.out hbl) ((Below.refl _ _).alloc (Nat.le_refl _) _)
      have hlen : (cont l p).length = be4 l p := by
        obtain ⟨k, hk, h1, _⟩ := nextE_zero HE.out
        have hk' : k = p := by rw [← HP.out]; omega
        subst hk'
        exact cont_len l k h1
      rw [hlen] at hown
      have hok : RecOk l B pre ⟨p, g, gc⟩ (w1.alloc (.cells #[.int .i64 (p : Int), .slice (some ⟨g, 0, none⟩) (be4 l p) gc] 31)) :=
        ⟨HP.out.symm, HE.out, HU.out, ((hown.mono (hB _ _ HJ.out)).below ((Below.refl _ _).alloc (Nat.le_refl _) _))⟩
      have HY := Lib.hid (fun k => hY k pre ⟨p, g, gc⟩ _ hj2 hok)
      have HO := Lib.hid (And.intro hj2 (And.intro hok hbl))
      clear hj2 hok hbl hown hlen
      obtain ⟨fn, tmps, assign, body, hy, hR⟩ := HY.out 8
      unfold recEnc recAgg recSlice at hy
      simp only at hy
      have HR := Lib.hid hR
      clear hR
      obtain ⟨n, hn0⟩ : ∃ n, be4 l p = n := ⟨_, rfl⟩
      simp only [hn0] at hy HR ⊢
      rw [show ((p + 8 + n : Nat) : Int) = (p : Int) + 8 + n from by omega] at hy
      have HNN := Lib.hid hn0
      clear hn0
      gi_wp2
      refine HR.out.mono ?_
      rintro e W3 (⟨rfl, hj3⟩ | ⟨rfl, hjx3⟩)
      · have hpos : pos l (pre ++ [(⟨p, g, gc⟩ : Rec)]).length = p + 8 + n := by
          rw [List.length_append]; show pos l pre.length + 8 + be4 l (pos l pre.length) = _
          rw [HP.out, HNN.out]
        have hup3 : Upto l (pre ++ [(⟨p, g, gc⟩ : Rec)]).length := by rw [List.length_append]; exact HU.out.snoc HE.out
        have hle3 := pos_le hup3
        rw [hpos] at hle3
        have HX := Lib.hid (And.intro hpos (And.intro hup3 hj3))
        clear hpos hup3 hj3
        gi_wp2
        go_roundw
        case rel => exact ⟨pre ++ [⟨p, g, gc⟩], by rw [HX.out.1]; go_num, HX.out.2.1, HX.out.2.2⟩
        case measure => simp [intOf]; omega
      · have HX := Lib.hid hjx3
        clear hjx3
        gi_wp2
        refine bodyPost_ret (results_none rfl _ _ _) rfl ?_
        exact ⟨⟨_, rfl⟩, .inr ⟨pre ++ [⟨p, g, gc⟩], HX.out, by unfold RecStop; rw [List.length_append]; exact HU.out.snoc HE.out⟩⟩
    · have HN : Hid (Calls Tryd.prog 22 #[.slice a l.length cap, .int .i64 ((pos l pre.length : Nat) : Int)] wr fun e w' => e = .returned (.tuple #[.agg #[.int .i64 0, .slice none 0 0], .int .i64 0, .int .i64 (nextE l ((pos l pre.length : Nat) : Int))]) ∧ Below wr.heap.size wr w') :=
        next_no a l cap ((pos l pre.length : Nat) : Int) wr hm hcap hcm hf hb hE
      have hne : (nextE l ((pos l pre.length : Nat) : Int) != 0) = true := by simpa using hE
      have HU := Lib.hid hup
      have HE := Lib.hid hE
      have HJ := Lib.hid hj
      clear hE hb hf hup hj hple
      generalize nextE l ((pos l pre.length : Nat) : Int) = en at HN hne
      generalize pos l pre.length = p at HN ⊢
      gi_wp2_with (refine ⟨trivial, (callsIn_wide.2 HN.out).mono ?_⟩; rintro e w1 ⟨rfl, hbl⟩; have hz := hbl.size)
      refine ⟨(fun _ h => by cases h), ?_⟩
      gi_wp2
      refine bodyPost_ret (results_none rfl _ _ _) rfl ?_
      exact ⟨⟨_, rfl⟩, .inl ⟨pre, hJ _ _ _ (hJ _ _ _ HJ.out hbl) ((Below.refl _ _).alloc (Nat.le_refl _) _), HU.out, HE.out⟩⟩
end Go.Proofs.YtconcmjmdhdgjaaDoor
