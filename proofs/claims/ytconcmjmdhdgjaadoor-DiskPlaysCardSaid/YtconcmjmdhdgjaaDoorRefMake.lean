/- The contracts of the document's records: skaldref04.Make, skaldref04.Join. -/
import Derived.Test.YtconcmjmdhdgjaaDoorRefCrc
import Derived.Test.YtconcmjmdhdgjaaDoorRecs
namespace Go.Proofs.YtconcmjmdhdgjaaDoor
open Go.RowKit

/-- What Make returns: the error and the bytes. -/
def mkE (c : List UInt8) : Int := if 65536 < c.length then 11 else 0
def mkB (c : List UInt8) : List UInt8 := if 65536 < c.length then [] else recB c
def MadeTo (w : World) (c : List UInt8) (e : Ending) (w' : World) : Prop :=
  ∃ v, e = .returned (.tuple #[v, .int .i64 (mkE c)]) ∧ OwnB w' w.heap.size v (mkB c) ∧ Below w.heap.size w w'

theorem make_all (a : Option Addr) (c : List UInt8) (n cap : Nat) (w : World) (hn : c.length = n) (hm : n ≤ 140737488355328) (hf : Fours w) (hb : BytesAt w a c) (hnc : a = none → cap = 0) :
    Calls Tryd.prog 21 #[.slice a n cap] w (MadeTo w c) := by
  subst hn
  by_cases h : 65536 < c.length
  · refine (make_long a c cap w h hm).mono ?_
    rintro e w' ⟨rfl, rfl⟩
    exact ⟨_, by unfold mkE; rw [if_pos h], by unfold mkB; rw [if_pos h]; exact OwnB.nil _ _, Below.refl _ _⟩
  · refine (make_any a c cap w (by omega) hf hb hnc).mono ?_
    rintro e w' ⟨g, gc, rfl, hown, hbl⟩
    exact ⟨_, by unfold mkE; rw [if_neg h], by unfold mkB; rw [if_neg h]; exact hown, hbl⟩

set_option maxHeartbeats 2000000 in
theorem rmake_all (a : Option Addr) (c : List UInt8) (n cap : Nat) (w : World) (hn : c.length = n) (hm : n ≤ 140737488355328) (hb : BytesAt w a c) (hnc : a = none → cap = 0) :
    Calls Tryd.prog 27 #[.slice a n cap] w (MadeTo w c) := by
  by_cases h : 65536 < n
  · have HX := Lib.hid (And.intro (show mkE c = 11 by unfold mkE; rw [hn, if_pos h]) (show mkB c = [] by unfold mkB; rw [hn, if_pos h]))
    clear hn hb hnc
    go_enter Tryd.func27, Tryd.ntmps27
    go_wp2
    go_ret2
    exact ⟨_, by rw [HX.out.1]; rfl, by rw [HX.out.2]; exact OwnB.nil _ _, Below.refl _ _⟩
  · have HX := Lib.hid (And.intro (show mkE c = 0 by unfold mkE; rw [hn, if_neg h]) (And.intro (show mkB c = recB c by unfold mkB; rw [hn, if_neg h]) (And.intro hn (And.intro hb hnc))))
    have hcr := crcV_lt c
    obtain ⟨s, hs⟩ : ∃ s, crcV c = s := ⟨_, rfl⟩
    rw [hs] at hcr
    have HS := Lib.hid hs
    clear hn hb hnc hs
    go_enter Tryd.func27, Tryd.ntmps27
    go_wp2_with fail
    refine (rfour_any n (by omega) w).mono ?_
    rintro e w1 ⟨rfl, ho1, hb1⟩
    have HA := Lib.hid (And.intro ho1 hb1)
    clear ho1 hb1
    go_wp2_with fail
    have hsum := rsum_any a c n cap w1 HX.out.2.2.1 (by omega) (HX.out.2.2.2.1.below HA.out.2)
    rw [HS.out] at hsum
    refine hsum.mono ?_
    rintro e w1' ⟨rfl, rfl⟩
    clear hsum
    go_wp2_with fail
    refine (rfour_any s hcr w1).mono ?_
    rintro e w2 ⟨rfl, ho2, hb2⟩
    have HD := Lib.hid (And.intro (HA.out.1.below hb2) (And.intro (belowStep HA.out.2 hb2) ho2))
    clear ho2 hb2
    go_wp2_with (first
      | (at_builtin; refine wpList_append_any rfl _ _ rfl w.heap.size v3 (be32 n ++ be32 s) c rfl H3.out.1 a n cap rfl HX.out.2.2.1 (HX.out.2.2.2.1.below H3.out.2) HX.out.2.2.2.2 (by have := HX.out.2.2.1; simp [be32]; omega) (H3.out.2.size) ?_; intro v4 w4 hown4 hg4 hn4 hb4
         have hB4 : Below w.heap.size w w4 := H3.out.2.grown hg4 H3.out.2.size (fun k hk => (own_ge H3.out.1 hk).1)
         have H4 := Lib.hid (And.intro hown4 hB4)
         clear hown4 hg4 hn4 hb4 hB4)
      | (at_builtin; refine wpList_append_any rfl _ _ rfl w.heap.size _ (be32 n) (be32 s) rfl HD.out.1 (some ⟨w1.heap.size, 0, none⟩) 4 4 rfl rfl HD.out.2.2.bytes (fun h => by cases h) (by simp [be32]) (HD.out.2.1.size) ?_; intro v3 w3 hown3 hg3 hn3 hb3
         have hB3 : Below w.heap.size w w3 := HD.out.2.1.grown hg3 HD.out.2.1.size (fun k hk => (own_ge HD.out.1 hk).1)
         have H3 := Lib.hid (And.intro hown3 hB3)
         clear hown3 hg3 hn3 hb3 hB3))
    go_ret2
    refine ⟨v4, by rw [HX.out.1]; rfl, ?_, H4.out.2⟩
    rw [HX.out.2.1]; unfold recB; rw [HX.out.2.2.1, HS.out]; exact H4.out.1

/-- What Join returns, where no content is too long. -/
def jnE (n : Nat) : Int := if 10000 < n then 12 else 0
def jnB (ls : List (List UInt8)) : List UInt8 := if 10000 < ls.length then [] else joinB ls
def JoinedTo (w : World) (ls : List (List UInt8)) (e : Ending) (w' : World) : Prop :=
  ∃ v, e = .returned (.tuple #[v, .int .i64 (jnE ls.length)]) ∧ OwnB w' w.heap.size v (jnB ls) ∧ Below w.heap.size w w'

theorem join_all (a : Option Addr) (ls : List (List UInt8)) (n cap : Nat) (w : World) (hn : ls.length = n) (hall : ∀ i, i < ls.length → (tx ls i).length ≤ 65536) (hf : Fours w) (hl : TextsAt w a ls) :
    Calls Tryd.prog 26 #[.slice a n cap] w (JoinedTo w ls) := by
  by_cases h : 10000 < n
  · refine (join_many a n cap w h).mono ?_
    rintro e w' ⟨rfl, rfl⟩
    exact ⟨_, by unfold jnE; rw [if_pos (by omega)], by unfold jnB; rw [if_pos (by omega)]; exact OwnB.nil _ _, Below.refl _ _⟩
  · refine (join_ok a ls n cap w hn (by omega) hall hf hl).mono ?_
    rintro e w' ⟨v, rfl, hown, hbl⟩
    exact ⟨_, by unfold jnE; rw [if_neg (by omega)], by unfold jnB; rw [if_neg (by omega)]; exact hown, hbl⟩

set_option maxHeartbeats 2000000 in
theorem rjoin_all (a : Option Addr) (ls : List (List UInt8)) (n cap : Nat) (w : World) (hn : ls.length = n) (hm : n ≤ 9223372036854775807) (hall : ∀ i, i < ls.length → (tx ls i).length ≤ 65536) (hl : TextsAt w a ls) :
    Calls Tryd.prog 28 #[.slice a n cap] w (JoinedTo w ls) := by
  by_cases h : 10000 < n
  · have HX := Lib.hid (And.intro (show jnE ls.length = 12 by unfold jnE; rw [if_pos (by omega)]) (show jnB ls = [] by unfold jnB; rw [if_pos (by omega)]))
    clear hn hl hall
    go_enter Tryd.func28, Tryd.ntmps28
    go_wp2
    go_ret2
    exact ⟨_, by rw [HX.out.1]; rfl, by rw [HX.out.2]; exact OwnB.nil _ _, Below.refl _ _⟩
  · have HX := Lib.hid (And.intro (show jnE ls.length = 0 by unfold jnE; rw [if_neg (by omega)]) (And.intro (show jnB ls = joinB ls by unfold jnB; rw [if_neg (by omega)]) (And.intro hn (And.intro hl hall))))
    clear hn hl hall
    go_enter Tryd.func28, Tryd.ntmps28
    go_wp2
    go_loopw [4, 5] (fun out i wr => ∃ k : Nat, k ≤ n ∧ i = .int .i64 (k : Int) ∧ OwnB wr w.heap.size out (joinB (ls.take k)) ∧ Below w.heap.size w wr) (fun _ i _ => n - (intOf i).toNat)
    case atStart => exact ⟨0, Nat.zero_le _, rfl, OwnB.nil _ _, Below.refl _ _⟩
    case round =>
      obtain ⟨k, hk, rfl, hown, hB⟩ := hrel
      by_cases hlt : k < n
      · have hkl : k < ls.length := by rw [HX.out.2.2.1]; exact hlt
        obtain ⟨b, off, rfl, hb1, A, C, hc, h2, h3, h4, h5⟩ : ∃ b off, a = some ⟨b, off, none⟩ ∧ b < w.heap.size ∧ ∃ A C, w.cell? ⟨b, off + k, none⟩ = some (.slice A (tx ls k).length C) ∧ (tx ls k).length ≤ C ∧ C ≤ maxLen ∧ (A = none → C = 0) ∧ BytesAt w A (tx ls k) := by
          rcases HX.out.2.2.2.1 with h | ⟨b, off, h1, h2, h3⟩
          · rw [h] at hkl; simp at hkl
          · exact ⟨b, off, h1, h2, h3 k hkl⟩
        have hcell := (hB.cell (p := ⟨b, off + k, none⟩) hb1).trans hc
        have hmx := HX.out.2.2.2.2 k hkl
        have HT := Lib.hid (joinB_step ls k hkl)
        have HLn := joinB_len ls HX.out.2.2.2.2 k (by omega)
        obtain ⟨c, hcc⟩ : ∃ c, tx ls k = c := ⟨_, rfl⟩
        rw [hcc] at hcell hmx h5 h2
        obtain ⟨m, hm'⟩ : ∃ m, c.length = m := ⟨_, rfl⟩
        rw [hm'] at hcell h2 hmx
        have HM := Lib.hid (rmake_all A c m C wr hm' (by omega) (h5.below hB) h4)
        have hE : mkE c = 0 := by unfold mkE; rw [if_neg (by omega)]
        have hBk : mkB c = recB c := by unfold mkB; rw [if_neg (by omega)]
        have HC := Lib.hid (And.intro hown (And.intro hB (And.intro hcc (And.intro hm' (And.intro hE hBk)))))
        clear hown hB hc h2 h3 h4 h5 hcc hm' hkl hE hBk
        go_wp2_with (first
          | (go_at_call 27; refine HM.out.mono ?_; rintro e w2 ⟨v2, rfl, hown2, hbl2⟩; rw [HC.out.2.2.2.2.1]; rw [HC.out.2.2.2.2.2] at hown2; obtain ⟨A2, C2, rfl, hC2, -, hnil2, hby2⟩ := hown2.any)
          | (at_builtin; refine wpList_append_any rfl _ _ rfl w.heap.size _ (joinB (ls.take k)) (recB c) rfl (HC.out.1.below hbl2) A2 _ C2 rfl rfl hby2 hnil2 (by have := recB_len c; have := HC.out.2.2.2.1; omega) (by have := HC.out.2.1.size; have := hbl2.size; omega) ?_; intro v3 w3 hown3 hg3 hn3 hb3))
        refine ⟨⟨k + 1, hlt, (by first | rfl | exact congrArg (Value.int .i64) (by omega)), ?_, ?_⟩, ?_⟩
        · rw [HT.out, HC.out.2.2.1]; exact hown3
        · exact (belowStep HC.out.2.1 hbl2).grown hg3 (by have := HC.out.2.1.size; have := hbl2.size; omega) (fun j hj => (own_ge HC.out.1 hj).1)
        · simp [intOf]; omega
      · obtain rfl : k = n := by omega
        have ht : ls.take k = ls := List.take_of_length_le (by have := HX.out.2.2.1; omega)
        rw [ht] at hown
        have HC := Lib.hid (And.intro hown hB)
        clear hown hB ht
        go_wp2
        go_ret2
        exact ⟨_, by rw [HX.out.1]; rfl, by rw [HX.out.2.1]; exact HC.out.1, HC.out.2⟩
theorem rsize_any (a : Option Addr) (n cap : Nat) (w : World) (hn : n ≤ 140737488355328) : Calls Tryd.prog 29 #[.slice a n cap] w fun e w' => e = .returned (.int .i64 (8 + (n : Int))) ∧ w = w' := by
  go_enter Tryd.func29, Tryd.ntmps29
  go_wp2
  go_ret
  exact ⟨rfl, rfl⟩
end Go.Proofs.YtconcmjmdhdgjaaDoor
