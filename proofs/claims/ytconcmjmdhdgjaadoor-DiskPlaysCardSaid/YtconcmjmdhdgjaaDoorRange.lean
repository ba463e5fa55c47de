/- A loop over a function: what it does, told by what its rounds keep. It speaks of no program. -/
import Derived.Test.YtconcmjmdhdgjaaDoorLib
import Derived.RangeFuncCalls
import Derived.RangeFuncLeaves
import Derived.RangeFuncRecord
import Derived.RangeFuncSeq
import Derived.OwnWalkIn
import Derived.TacticsInMore
import Derived.LoopNIn
import Derived.LoopIn
namespace Go.Proofs.YtconcmjmdhdgjaaDoor
open Go.RowKit

/-- All blocks but B and the one behind it are as they were. -/
structure Stays (B : Nat) (W W' : World) : Prop where
  os : W'.os = W.os
  tape : W'.tape = W.tape
  output : W'.output = W.output
  size : W.heap.size ≤ W'.heap.size
  block : ∀ k, k < W.heap.size → k ≠ B → k ≠ B + 1 → W'.heap[k]? = W.heap[k]?

theorem Stays.refl (B : Nat) (W : World) : Stays B W W := ⟨rfl, rfl, rfl, Nat.le_refl _, fun _ _ _ _ => rfl⟩
theorem Stays.trans {B : Nat} {X Y Z : World} (h : Stays B X Y) (k : Stays B Y Z) : Stays B X Z :=
  ⟨k.os.trans h.os, k.tape.trans h.tape, k.output.trans h.output, Nat.le_trans h.size k.size, fun i hi h1 h2 => (k.block i (Nat.lt_of_lt_of_le hi h.size) h1 h2).trans (h.block i hi h1 h2)⟩
theorem Stays.of_below {B : Nat} {W W' : World} (h : Below W.heap.size W W') : Stays B W W' := ⟨h.os, h.tape, h.output, h.size, fun k hk _ _ => h.block k hk⟩
theorem Stays.putObj (B : Nat) (W : World) (r : Nat) (o : Obj) (h : r = B ∨ r = B + 1) : Stays B W (W.putObj r o) :=
  ⟨rfl, rfl, rfl, by simp, fun k _ h1 h2 => World.putObj_heap_other (by omega)⟩
theorem Stays.blk {B b : Nat} {W W' : World} {o : Obj} (h : Stays B W W') (hb : W.heap[b]? = some o) (h1 : b ≠ B) (h2 : b ≠ B + 1) : W'.heap[b]? = some o :=
  (h.block b (lt_of_blk hb) h1 h2).trans hb
/-- Below block C, which lies before B, all is as it was, too. -/
theorem Stays.below {B C : Nat} {W W' : World} (h : Stays B W W') (hC : C ≤ B) (hs : C ≤ W.heap.size) : Below C W W' :=
  ⟨h.os, h.tape, h.output, h.size, fun k hk => h.block k (by omega) (by omega) (by omega)⟩

variable {P : Program}

theorem roundIn_wide {k k' l : Nat} {f : FuncId} {tmps : Array Value} {assign body : Code} {W : World} {R : Ending → World → Prop}
    (h : RoundIn Fence.wide k P l f tmps assign body W R) : RoundIn Fence.wide k' P l f tmps assign body W R :=
  ⟨trivial, fun c cs _ => h.2 c cs (room_wide _)⟩

/-- The two blocks of the loop's own are as they were. -/
def Two (B : Nat) (W W' : World) : Prop := W'.heap[B]? = W.heap[B]? ∧ W'.heap[B + 1]? = W.heap[B + 1]?

/-- How a round's body may be left. -/
def roundEnd {α : Type} (B : Nat) (I : List α → World → Prop) (Ix : Code → List α → World → Prop) (xs : List α) (W : World) : Exit → Act → World → Prop
  | .normal, _, W' => Two B W W' ∧ I xs W'
  | .ret, _, W' => Two B W W' ∧ Ix .ret xs W'
  | .exit id, _, W' => Two B W W' ∧ Ix (.exit id) xs W'
  | .goto t, _, W' => Two B W W' ∧ Ix (.goto t) xs W'
  | .panic _, _, _ => False
  | .outgrown, _, _ => False

/-- What an iterator is told of yield. -/
def YieldsTo {α : Type} (P : Program) (l : Nat) (enc : α → Array Value) (Ok : List α → α → World → Prop) (J Jx : List α → World → Prop) : Prop :=
  ∀ (k : Nat) (pre : List α) (x : α) (W : World), J pre W → Ok pre x W →
    YieldAt Fence.wide k P l (enc x) W fun e W' => (e = .returned (.bool true) ∧ J (pre ++ [x]) W') ∨ (e = .returned (.bool false) ∧ Jx (pre ++ [x]) W')

/-- What an iterator comes to. -/
def IterEnd {α : Type} (J Jx End Stop : List α → World → Prop) (e : Ending) (W' : World) : Prop :=
  (∃ v, e = .returned v) ∧ ((∃ xs, J xs W' ∧ End xs W') ∨ (∃ pre, Jx pre W' ∧ Stop pre W'))

theorem range_law {α : Type} {n : Nat} {g : Operand} {ps : Array Tmp} {assign body : Code} {Q : Exit → Act → World → Prop} {a : Act} {w : World}
    {gf : Nat} {lb : Array Value} (hg : a.eval g = .func (.func gf) #[] lb) (eg : ∀ args w, (callFunc gf args).run P w = .ok (.enter gf args) w)
    (enc : α → Array Value) (hps : ∀ x, (enc x).size = ps.size)
    (I : List α → World → Prop) (Ix : Code → List α → World → Prop) (Ok : List α → α → World → Prop) (End Stop : List α → World → Prop)
    (hI : ∀ s W W', I s W → Stays w.heap.size W W' → I s W') (hIx : ∀ c s W W', Ix c s W → Stays w.heap.size W W' → Ix c s W')
    (hEnd : ∀ s W W', End s W → Stays w.heap.size W W' → End s W') (hStop : ∀ s W W', Stop s W → Stays w.heap.size W W' → Stop s W')
    (h0 : I [] w)
    (hround : ∀ pre x W, I pre W → Ok pre x W → w.heap.size + 1 < W.heap.size →
      assign.wpIn (Fence.wide.inRound (w.heap.size + 1)) 9 P (Exit.then (fun a₁ W₁ => Two w.heap.size W W₁ ∧
          ∀ W₂, Stays w.heap.size W₁ W₂ → body.wpIn (Fence.wide.inRound (w.heap.size + 1)) 9 P (roundEnd w.heap.size I Ix (pre ++ [x]) W₂) a₁ W₂) (fun _ _ _ => False))
        { tmps := (ps.zip (enc x)).foldl (fun t (p, v) => t.setIfInBounds p v) a.tmps, defers := [] } W)
    (hcall : ∀ (J Jx : List α → World → Prop) (W : World), Stays w.heap.size w W → w.heap.size + 1 < W.heap.size → (∀ s W W', J s W → Below W.heap.size W W' → J s W') → (∀ s W W', Jx s W → Below W.heap.size W W' → Jx s W') → (∀ s W, J s W → I s W ∧ w.heap.size + 1 < W.heap.size) → (∀ s W, Jx s W → ∃ c, Ix c s W) →
      YieldsTo P (w.heap.size + 1) enc Ok J Jx → J [] W →
      Calls P gf (#[.func (.yield (w.heap.size + 1)) #[] #[]] ++ lb) W (IterEnd J Jx End Stop))
    (hdone : ∀ xs W, End xs W → I xs W → W.heap[w.heap.size]? = some (.deferred (some [])) → Q .normal { a with defers := { target := .collected w.heap.size, args := #[] } :: a.defers } W)
    (hstop : ∀ c pre W, Ix c pre W → Stop pre W → W.heap[w.heap.size]? = some (.deferred (some [])) → c.wpIn Fence.wide n P Q { a with defers := { target := .collected w.heap.size, args := #[] } :: a.defers } W) :
    (Code.rangeFunc g ps assign body).wpIn Fence.wide n P Q a w := by
  refine wpIn_rangeFunc fun fn _ => ?_
  -- the loop's record, in a state and with a pending jump
  let R : LoopState → Option Code → Loop := fun st j => { state := st, pending := j, fn := fn, tmps := a.tmps, params := ps, assign := assign, body := body, defers := w.heap.size }
  obtain ⟨U, hU⟩ : ∃ U, (w.alloc (.deferred (some []))).alloc (.loop (R .ready none)) = U := ⟨_, rfl⟩
  have hsz : U.heap.size = w.heap.size + 2 := by rw [← hU]; simp
  have hD : U.heap[w.heap.size]? = some (.deferred (some [])) := by rw [← hU]; exact blk_alloc (blk_new w _) _
  have hL : U.heap[w.heap.size + 1]? = some (.loop (R .ready none)) := by
    have := blk_new (w.alloc (.deferred (some []))) (.loop (R .ready none))
    rw [World.size_alloc] at this
    rw [← hU]; exact this
  have hS : Stays w.heap.size w U := by
    rw [← hU]; exact .of_below (((Below.refl _ w).alloc (Nat.le_refl _) _).alloc (by simp) _)
  refine ⟨w.heap.size + 1, [{ target := .collected w.heap.size, args := #[] }], U, { target := .fn (.func gf) lb, args := #[.func (.yield (w.heap.size + 1)) #[] #[]] }, U, gf,
    #[.func (.yield (w.heap.size + 1)) #[] #[]] ++ lb, U, ?_, ?_, fun _ _ => trivial, ?_, (fun h => by cases h), callsIn_wide.2 ?_⟩
  · rw [← hU]; exact run_enterLoop_outer _ _ _ _ _
  · simp only [resolve, hg]; simp [go_sem]
  · simp [invoke, go_sem, eg]
  -- what holds between two rounds: the caller's own, and the two blocks
  have hst : ∀ {X Y : World} {j : Nat} {o : Obj}, X.heap[j]? = some o → Below X.heap.size X Y → Y.heap[j]? = some o := fun h hb => blk_below' h hb
  refine (hcall (fun s W => I s W ∧ W.heap[w.heap.size]? = some (.deferred (some [])) ∧ W.heap[w.heap.size + 1]? = some (.loop (R .ready none)))
    (fun s W => ∃ c, Ix c s W ∧ W.heap[w.heap.size]? = some (.deferred (some [])) ∧ W.heap[w.heap.size + 1]? = some (.loop (R .done (some c)))) U hS (by omega)
    (fun s W W' h hb => ⟨hI _ _ _ h.1 (.of_below hb), hst h.2.1 hb, hst h.2.2 hb⟩)
    (fun s W W' h hb => by obtain ⟨c, h1, h2, h3⟩ := h; exact ⟨c, hIx _ _ _ _ h1 (.of_below hb), hst h2 hb, hst h3 hb⟩)
    (fun _ _ h => ⟨h.1, lt_of_blk h.2.2⟩) (fun _ _ h => by obtain ⟨c, h1, _⟩ := h; exact ⟨c, h1⟩) ?_ ⟨hI _ _ _ h0 hS, hD, hL⟩).mono ?_
  · -- one round
    rintro k pre x W ⟨hi, hd, hl⟩ hok
    have hy := run_yield (P := P) (args := enc x) hl (hps x)
    refine ⟨fn, _, assign, body, hy, roundIn_wide (k := 9) (roundIn_of_wpIn (F := Fence.wide) trivial (wpIn_mono (hround pre x W hi hok (lt_of_blk hl)) ?_))⟩
    rintro e a₁ W₁ he
    cases e with
    | normal =>
      obtain ⟨⟨t1, t2⟩, hbody⟩ := he
      have hl1 : W₁.heap[w.heap.size + 1]? = some (.loop (R .ready none)) := t2.trans hl
      have hd1 : W₁.heap[w.heap.size]? = some (.deferred (some [])) := t1.trans hd
      have hl2 : (W₁.putObj (w.heap.size + 1) (.loop (R .busy none))).heap[w.heap.size + 1]? = some (.loop (R .busy none)) := World.putObj_heap_same (lt_of_blk hl1)
      have hd2 : (W₁.putObj (w.heap.size + 1) (.loop (R .busy none))).heap[w.heap.size]? = some (.deferred (some [])) := (World.putObj_heap_other (by omega)).trans hd1
      refine ⟨_, run_beginRound hl1 rfl, wpIn_mono (hbody _ (.putObj _ _ _ _ (.inr rfl))) ?_⟩
      -- the round's end, with a jump or without one
      have hend : ∀ (j : Option Code) (W₃ : World), Two w.heap.size (W₁.putObj (w.heap.size + 1) (.loop (R .busy none))) W₃ →
          ∃ W₄, (Instr.endRound (w.heap.size + 1) j).run P W₃ = .ok (.bool j.isNone) W₄ ∧ Stays w.heap.size W₃ W₄ ∧ W₄.heap[w.heap.size]? = some (.deferred (some [])) ∧ W₄.heap[w.heap.size + 1]? = some (.loop (R (if j.isNone then .ready else .done) j)) := by
        intro j W₃ ht
        have hl3 : W₃.heap[w.heap.size + 1]? = some (.loop (R .busy none)) := ht.2.trans hl2
        exact ⟨_, run_endRound j hl3, .putObj _ _ _ _ (.inr rfl), (World.putObj_heap_other (by omega)).trans (ht.1.trans hd2), World.putObj_heap_same (lt_of_blk hl3)⟩
      rintro e a₃ W₃ he
      cases e with
      | normal =>
        obtain ⟨W₄, h1, h2, h3, h4⟩ := hend none W₃ he.1
        exact ⟨_, _, h1, .inl ⟨rfl, hI _ _ _ he.2 h2, h3, h4⟩⟩
      | ret =>
        obtain ⟨W₄, h1, h2, h3, h4⟩ := hend (some .ret) W₃ he.1
        exact ⟨_, _, h1, .inr ⟨rfl, _, hIx _ _ _ _ he.2 h2, h3, h4⟩⟩
      | exit id =>
        obtain ⟨W₄, h1, h2, h3, h4⟩ := hend (some (.exit id)) W₃ he.1
        exact ⟨_, _, h1, .inr ⟨rfl, _, hIx _ _ _ _ he.2 h2, h3, h4⟩⟩
      | goto t =>
        obtain ⟨W₄, h1, h2, h3, h4⟩ := hend (some (.goto t)) W₃ he.1
        exact ⟨_, _, h1, .inr ⟨rfl, _, hIx _ _ _ _ he.2 h2, h3, h4⟩⟩
      | panic ch => exact he.elim
      | outgrown => exact he.elim
    | exit id => exact he.elim
    | goto t => exact he.elim
    | ret => exact he.elim
    | panic ch => exact he.elim
    | outgrown => exact he.elim
  · -- behind the iterator
    rintro e W₂ ⟨⟨v, rfl⟩, ⟨xs, ⟨hi, hd, hl⟩, he⟩ | ⟨pre, ⟨c, hi, hd, hl⟩, hs⟩⟩
    · exact ⟨none, _, run_endLoop hl (by simp [R]), hdone _ _ (hEnd _ _ _ he (.putObj _ _ _ _ (.inr rfl))) (hI _ _ _ hi (.putObj _ _ _ _ (.inr rfl))) ((World.putObj_heap_other (by omega)).trans hd)⟩
    · exact ⟨some c, _, run_endLoop hl (by simp [R]), hstop _ _ _ (hIx _ _ _ _ hi (.putObj _ _ _ _ (.inr rfl))) (hStop _ _ _ hs (.putObj _ _ _ _ (.inr rfl))) ((World.putObj_heap_other (by omega)).trans hd)⟩
end Go.Proofs.YtconcmjmdhdgjaaDoor
