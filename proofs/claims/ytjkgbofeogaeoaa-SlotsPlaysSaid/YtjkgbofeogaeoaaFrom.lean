/- The iterator over the slots of a log. -/
import Derived.Test.YtjkgbofeogaeoaaLog
import Derived.Test.YtjkgbofeogaeoaaRange
import Derived.Shelf.Abstract
import Derived.RangeFuncBox
namespace Go.Proofs.Ytjkgbofeogaeoaa
open Go.RowKit Go.Shelf Go.Maps
attribute [local go_sem] Oper.semAt_some

/-- The slots from one on, with whether they have a value. -/
def runL (f : Int → Option ByteArray) (from_ : Int) (k : Nat) : List (Int × Bool) := (List.range k).map fun (i : Nat) => (from_ + (i : Int), (f (from_ + (i : Int))).isSome)
theorem runL_succ (f : Int → Option ByteArray) (a : Int) (k : Nat) : runL f a (k + 1) = runL f a k ++ [(a + (k : Int), (f (a + (k : Int))).isSome)] := by
  unfold runL; rw [List.range_succ, List.map_append]; rfl
theorem runL_len (f : Int → Option ByteArray) (a : Int) (k : Nat) : (runL f a k).length = k := by unfold runL; simp
def encS (x : Int × Bool) : Array Value := #[.int .i64 x.1, .bool x.2]
/-- What is yielded behind what was yielded before. -/
def OkS (f : Int → Option ByteArray) (slot top : Int) (pre : List (Int × Bool)) (x : Int × Bool) : Prop := ∃ k : Nat, k < (top - slot).toNat ∧ pre = runL f slot k ∧ x = (slot + (k : Int), (f (slot + (k : Int))).isSome)
/-- What the iterator reads. -/
def FromMem (w : World) (D b : Nat) (f : Int → Option ByteArray) (top : Int) (sx lx : Nat) (slot : Int) : Prop :=
  (∃ base upto n, LogAt w D b n ⟨f, base, upto, top⟩) ∧ w.heap[sx]? = some (.cells #[.int .i64 slot] 3) ∧ w.heap[lx]? = some (.cells #[.pointer (some ⟨D, 0, none⟩)] 22)

set_option maxRecDepth 20000 in
set_option maxHeartbeats 8000000 in
theorem from_it (D b : Nat) (f : Int → Option ByteArray) (slot top : Int) (sx lx lp : Nat) (hs0 : 0 ≤ slot) (ht : top ≤ 4096) (hs1 : slot ≤ 4096) (J Jx : List (Int × Bool) → World → Prop) (W : World)
    (hJM : ∀ l W, J l W → FromMem W D b f top sx lx slot)
    (hY : YieldsTo Try.prog lp encS (fun pre x _ => OkS f slot top pre x) J Jx) (h0 : J [] W) :
    Calls Try.prog 98 #[.func (.yield lp) #[] #[], .pointer (some ⟨sx, 0, none⟩), .pointer (some ⟨lx, 0, none⟩)] W (IterEnd J Jx (fun xs _ => xs = runL f slot (top - slot).toNat) (fun pre _ => ∃ k, k < (top - slot).toNat ∧ pre = runL f slot (k + 1))) := by
  have hM := hJM _ _ h0
  have cs := cell_blk hM.2.1 0
  simp at cs
  have HJ := Lib.hid h0
  clear h0 hM
  refine (callsIn_wide (n := 9)).1 (callsIn_of_wp Try.func98 rfl trivial ?_ rfl)
  simp only [Try.ntmps98, List.size_toArray, List.length_cons, List.length_nil, Nat.reduceAdd, Nat.reduceSub, Array.replicate_succ, Array.replicate_zero, List.push_toArray, List.append_toArray, List.nil_append, List.cons_append]
  gi_wp2_with fail
  gi_loopw [4] (fun i wr => ∃ k : Nat, i = .int .i64 (slot + (k : Int)) ∧ k ≤ (top - slot).toNat ∧ J (runL f slot k) wr) (fun i _ => (4096 - intOf i).toNat)
  case atStart => exact ⟨0, by simp, Nat.zero_le _, HJ.out⟩
  case round =>
    obtain ⟨k, rfl, hk, hj⟩ := hrel
    obtain ⟨i, hi⟩ : ∃ i : Int, slot + (k : Int) = i := ⟨_, rfl⟩
    rw [hi]
    obtain ⟨⟨base, upto, n, hl⟩, hsx, hlx⟩ := hJM _ _ hj
    have c0 := cell_blk hl.blk 0
    have c3 := cell_blk hl.blk 3
    have cl := cell_blk hlx 0
    simp at c0 c3 cl
    have zD := lt_of_blk hl.blk
    have zl := lt_of_blk hlx
    have hlook := hl.mp.look i (by unfold inI; omega)
    have hs := runL_succ f slot k
    rw [hi] at hs
    simp only at hlook
    obtain ⟨v, hv⟩ : ∃ v, (f i).getD ⟨#[]⟩ = v := ⟨_, rfl⟩
    obtain ⟨c, hc⟩ : ∃ c, (f i).isSome = c := ⟨_, rfl⟩
    rw [hv, hc] at hlook
    rw [hc] at hs
    by_cases hlt : i < top
    · obtain ⟨fn, tmps, assign, body, hy, hR⟩ := hY 8 (runL f slot k) (i, c) _ hj ⟨k, by omega, rfl, by rw [hi, hc]⟩
      unfold encS at hy
      simp only at hy
      have hkt : k < (top - slot).toNat := by omega
      have HR := Lib.hid (And.intro hR (And.intro hs hi))
      have hi9 : i ≤ 4096 := by omega
      have hi0 : 0 ≤ i := by omega
      clear hR hj hs hi hv hc hl hsx hlx
      gi_wp2
      refine HR.out.1.mono ?_
      rintro e W3 (⟨rfl, hj3⟩ | ⟨rfl, hjx3⟩)
      · have H3 := Lib.hid hj3
        clear hj3
        gi_wp2
        go_roundw
        case rel => exact ⟨k + 1, by have := HR.out.2.2; first | rfl | exact congrArg (Value.int .i64) (by omega), hkt, by rw [HR.out.2.1]; exact H3.out⟩
        case measure => have := HR.out.2.2; simp [intOf]; omega
      · have H3 := Lib.hid hjx3
        clear hjx3
        gi_wp2
        refine bodyPost_ret (results_none rfl _ _ _) rfl ?_
        exact ⟨⟨_, rfl⟩, .inr ⟨_, H3.out, k, hkt, HR.out.2.1.symm⟩⟩
    · have HK := Lib.hid (And.intro hj hi)
      have hlt2 : top ≤ i := by omega
      clear hj hi hs hv hc hl hsx hlx
      gi_wp2
      refine bodyPost_end (results_none rfl _ _ _) rfl ?_
      have hkk : k = (top - slot).toNat := by have := HK.out.2; omega
      exact ⟨⟨_, rfl⟩, .inl ⟨_, HK.out.1, by rw [hkk]⟩⟩
end Go.Proofs.Ytjkgbofeogaeoaa
