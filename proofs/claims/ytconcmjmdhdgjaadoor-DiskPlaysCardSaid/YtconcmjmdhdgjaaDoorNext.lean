/- The contract of frame.Next, for all bytes that lie in memory and every place. -/
import Derived.Test.YtconcmjmdhdgjaaDoorTake
namespace Go.Proofs.YtconcmjmdhdgjaaDoor
open Go.RowKit

/-- The content of the record at a place. -/
def cont (l : List UInt8) (at_ : Nat) : List UInt8 := (l.drop (at_ + 8)).take (be4 l at_)
/-- The error of the record at a place, 0 if there is one. -/
def nextE (l : List UInt8) (i : Int) : Int :=
  if i < 0 ∨ (l.length : Int) < i then 3 else if i = l.length then 5 else if (l.length : Int) - i < 8 then 10
  else if 65536 < be4 l i.toNat ∨ l.length < i.toNat + 8 + be4 l i.toNat then 10
  else if crcV (cont l i.toNat) = be4 l (i.toNat + 4) then 0 else 13

def nextNo (n : Int) : Ending := .returned (.tuple #[.agg #[.int .i64 0, .slice none 0 0], .int .i64 0, .int .i64 n])
def nextYes (k : Nat) (v : Value) (n : Nat) : Ending := .returned (.tuple #[.agg #[.int .i64 (k : Int), v], .int .i64 (n : Int), .int .i64 0])

set_option maxHeartbeats 2000000 in
theorem next_early (a : Option Addr) (l : List UInt8) (cap : Nat) (i : Int) (w : World) (hm : l.length ≤ 140737488355328)
    (h : i < 0 ∨ (l.length : Int) < i ∨ (l.length : Int) = i ∨ (l.length : Int) - i < 8) :
    Calls Tryd.prog 22 #[.slice a l.length cap, .int .i64 i] w fun e w' => e = nextNo (nextE l i) ∧ Below w.heap.size w w' := by
  by_cases h1 : i < 0
  · have H := Lib.hid (show nextE l i = 3 by unfold nextE; rw [if_pos (.inl h1)])
    clear h
    go_enter Tryd.func22, Tryd.ntmps22
    go_wp2
    go_returns
    exact ⟨by rw [H.out]; rfl, by go_grown⟩
  · by_cases h2 : (l.length : Int) < i
    · have H := Lib.hid (show nextE l i = 3 by unfold nextE; rw [if_pos (.inr h2)])
      clear h
      go_enter Tryd.func22, Tryd.ntmps22
      go_wp2
      go_returns
      exact ⟨by rw [H.out]; rfl, by go_grown⟩
    · by_cases h3 : (l.length : Int) = i
      · subst h3
        have H := Lib.hid (show nextE l (l.length : Int) = 5 by unfold nextE; rw [if_neg (by omega), if_pos rfl])
        clear h
        go_enter Tryd.func22, Tryd.ntmps22
        go_wp2
        go_returns
        exact ⟨by rw [H.out]; rfl, by go_grown⟩
      · have h4 : (l.length : Int) - i < 8 := by omega
        have h5 : i < l.length := by omega
        have H := Lib.hid (show nextE l i = 10 by unfold nextE; rw [if_neg (by omega), if_neg (by omega), if_pos h4])
        have h6 : (i == (l.length : Int)) = false := by simp; omega
        clear h h3
        go_enter Tryd.func22, Tryd.ntmps22
        go_wp2
        go_returns
        exact ⟨by rw [H.out]; rfl, by go_grown⟩

theorem take_at (l : List UInt8) (b off cap B i : Nat) (i' : Int) (hi : i' = (i : Int)) (w : World) (hc : w.cell? ⟨B, 0, none⟩ = some (.slice (some ⟨b, off, none⟩) l.length cap)) (h1 : i + 4 ≤ l.length) (h2 : l.length ≤ cap) (h3 : cap ≤ maxLen)
    (hb : BytesAt w (some ⟨b, off, none⟩) l) :
    Calls Tryd.prog 66 #[.int .i64 i', .pointer (some ⟨B, 0, none⟩)] w fun e w' => e = .returned (.int .u32 ((be4 l i : Nat) : Int)) ∧ w = w' := by
  subst hi; exact take_any l b off cap B i w hc h1 h2 h3 hb
theorem ccheck_at (a : Option Addr) (l : List UInt8) (cap n m : Nat) (r : Bool) (w : World) (hn : l.length = m) (hm : l.length ≤ 9223372036854775807) (h : BytesAt w a l) (hf : Fours w) (hr : decide (crcV l = n) = r) :
    Calls Tryd.prog 67 #[.slice a m cap, .int .u32 (n : Int)] w fun e w' => e = .returned (.bool r) ∧ w = w' := by
  subst hn
  have := ccheck_any a l cap n w hm h hf
  have e : ((crcV l : Int) == (n : Int)) = r := by rw [← hr]; rw [Bool.eq_iff_iff]; simp; omega
  rw [e] at this; exact this

theorem BytesAt.sub {w : World} {b off : Nat} {l : List UInt8} (h : BytesAt w (some ⟨b, off, none⟩) l) (j n : Nat) : BytesAt w (some ⟨b, off + j, none⟩) ((l.drop j).take n) := by
  rcases h with rfl | ⟨b', off', e, h2, h3⟩
  · exact .inl (by simp)
  · cases e
    refine .inr ⟨_, _, rfl, h2, fun i hi => ?_⟩
    have h4 : i < n ∧ j + i < l.length := by simp at hi; omega
    rw [Nat.add_assoc, h3 (j + i) h4.2, List.getElem?_take, if_pos h4.1, List.getElem?_drop]

def NextYes (w : World) (l : List UInt8) (k : Nat) (e : Ending) (w' : World) : Prop :=
  ∃ g cap, e = nextYes k (.slice (some ⟨g, 0, none⟩) (be4 l k) cap) (k + 8 + be4 l k) ∧ OwnB w' w.heap.size (.slice (some ⟨g, 0, none⟩) (cont l k).length cap) (cont l k) ∧ Below w.heap.size w w'

set_option maxHeartbeats 2000000 in
theorem next_late (b off : Nat) (l : List UInt8) (cap k : Nat) (w : World) (_hm : l.length ≤ 140737488355328) (hcap : l.length ≤ cap) (hcm : cap ≤ maxLen) (_hf : Fours w)
    (hb : BytesAt w (some ⟨b, off, none⟩) l) (hk : k + 8 ≤ l.length) (hbad : 65536 < be4 l k ∨ l.length < k + 8 + be4 l k) :
    Calls Tryd.prog 22 #[.slice (some ⟨b, off, none⟩) l.length cap, .int .i64 (k : Int)] w fun e w' => e = nextNo 10 ∧ Below w.heap.size w w' := by
  obtain ⟨W1, hW1⟩ : ∃ W1, (w.alloc (.cells #[.slice (some ⟨b, off, none⟩) l.length cap] 22)).alloc (.cells #[.int .i64 0, .slice none 0 0] 31) = W1 := ⟨_, rfl⟩
  have hB1 : Below w.heap.size w W1 := by rw [← hW1]; go_grown
  have hc : W1.cell? ⟨w.heap.size, 0, none⟩ = some (.slice (some ⟨b, off, none⟩) l.length cap) := by
    rw [← hW1, cell_blk (blk_alloc (blk_new w _) _)]; rfl
  have HT := Lib.hid (take_any l b off cap w.heap.size k W1 hc (by omega) hcap hcm (hb.below hB1))
  have hn := be4_lt l k
  rw [← hW1] at HT
  unfold maxLen at hcm
  clear hc hB1 hW1 _hf hb
  generalize be4 l k = n at *
  have h6 : ((k : Int) == (l.length : Int)) = false := by simp; omega
  go_enter Tryd.func22, Tryd.ntmps22
  go_wp2_with (go_at_call 66; refine HT.out.mono ?_; rintro e w' ⟨rfl, rfl⟩)
  all_goals
    go_returns
    exact ⟨rfl, by go_grown⟩

theorem clone_at (a : Addr) (l : List UInt8) (cap m : Nat) (w : World) (hn : l.length = m) (hm : l.length ≤ 140737488355328) (h : BytesAt w (some a) l) :
    Calls Tryd.prog 68 #[.slice (some a) m cap] w (ClonedTo w l) := by
  subst hn; exact clone_any a l cap w hm h

theorem cont_len (l : List UInt8) (k : Nat) (h : k + 8 + be4 l k ≤ l.length) : (cont l k).length = be4 l k := by
  unfold cont; simp; omega

theorem bcell {W w1 : World} (hb : Below W.heap.size W w1) : (∀ b o, b < W.heap.size → w1.cell? ⟨b, o, none⟩ = W.cell? ⟨b, o, none⟩) ∧ (∀ b o, b < W.heap.size → w1.frozen? ⟨b, o, none⟩ = W.frozen? ⟨b, o, none⟩) :=
  ⟨fun b o h => hb.cell (p := ⟨b, o, none⟩) h, fun b o h => hb.frozen (p := ⟨b, o, none⟩) h⟩
end Go.Proofs.YtconcmjmdhdgjaaDoor
