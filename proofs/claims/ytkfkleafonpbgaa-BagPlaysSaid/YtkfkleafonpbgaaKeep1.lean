/- What the law BagKeeps needs beside bags: its moves, and a number deleted of a list of the call's own. -/
import Derived.Test.YtkfkleafonpbgaaMem
import Derived.Deep.Slices
import Derived.Deep.Strs
namespace Go.Proofs.Ytkfkleafonpbgaa
open Go.RowKit Go.Shelf Go.ChangeShapes Go.WideShapes Go.ChangeAt

theorem zeroU (w : World) : (zeroValue 51).run Try.prog w = .ok (uv 0) w := by kernel_rfl
theorem getBang (l : List Nat) (j : Nat) (h : j < l.length) : l.toArray[j]! = l[j] := by simp [h]
/-- What putRow makes of a block of the row's. -/
theorem putRow_blk {w : World} {g : Nat} {cur : Array Value} {t : TypeId} (h : w.heap[g]? = some (.cells cur t)) (d : Array Nat) : (Sort.putRow uv w g 0 d).heap[g]? = some (.cells (Sort.putCells uv 0 d cur) t) := by
  show (w.heap.modify g _)[g]? = _
  rw [Array.getElem?_modify, if_pos rfl, h]; rfl
theorem putRow_upd (w : World) (g : Nat) (d : Array Nat) : Upd (fun b => b = g) w (Sort.putRow uv w g 0 d) :=
  ⟨rfl, rfl, rfl, by show w.heap.size ≤ (w.heap.modify g _).size; simp, fun b hb hF => by
    show (w.heap.modify g _)[b]? = _
    rw [Array.getElem?_modify, if_neg (fun e => hF e.symm)]⟩
def DelTo (w : World) (B : Nat) (v : Value) (l : List Nat) (e : Ending) (w' : World) : Prop := ∃ A C, e = .returned (.slice A l.length C) ∧ UOwn w' B (.slice A l.length C) l ∧ (Value.slice A l.length C).ownBlock = v.ownBlock ∧ Upd (fun b => v.ownBlock = some b) w w'
theorem uv_delete {w : World} {B i n C : Nat} {A : Option Addr} {l : List Nat} (h : UOwn w B (.slice A n C) l) (hn : l.length = n) (hi : i < n) :
    Calls Try.prog 30 #[.slice A n C, .int .i64 (i : Int), .int .i64 ((i : Int) + 1)] w (DelTo w B (.slice A n C) (l.take i ++ l.drop (i + 1))) := by
  subst hn
  rcases h.2 with ⟨h1, h2⟩ | ⟨g, cap, cur, h1, hB, hg, hc1, hc2, hsz, htk⟩
  · omega
  · cases h1
    obtain ⟨i0, hi0, -, hz1, -⟩ := info_parts Try.info51
    rw [Nat.mul_one] at htk hsz
    have hat : ∀ j (hj : j < l.length), cur[j]? = some (uv l[j]) := fun j hj => by
      have : (cur.toList.take l.length)[j]? = (l.map uv)[j]? := by rw [htk]
      rw [List.getElem?_take, if_pos hj] at this
      simpa [hj] using this
    have hH : Sort.Holds uv w g 0 l.toArray := fun j hj => by
      have hj' : j < l.length := by simpa using hj
      rw [getBang l j hj']
      refine ⟨?_, ?_⟩
      · rw [cell_blk hg, Nat.zero_add]; exact hat j hj'
      · exact free_blk hg _
    have hk := Try.slices_Delete uv (fun _ => rfl) 0 zeroU i0 hi0 hz1 g 0 C i (i + 1) l.toArray w hH (by simpa using hc1) (by unfold maxLen at hc2; exact hc2) (by omega) (by simp; omega)
    have e1 : l.toArray.size - (i + 1 - i) = (l.take i ++ l.drop (i + 1)).length := by simp; omega
    rw [e1] at hk
    refine Calls.mono hk ?_
    rintro e w' ⟨rfl, q, rfl⟩
    refine ⟨some ⟨g, 0, none⟩, C, rfl, ?_, rfl, ?_⟩
    · obtain ⟨d, hd⟩ : ∃ d, (l.toArray.toList.take i ++ l.toArray.toList.drop (i + 1) ++ List.replicate (i + 1 - i) 0).toArray = d := ⟨_, rfl⟩
      rw [hd]
      refine ⟨by simp, .inr ⟨g, C, _, rfl, hB, putRow_blk (w := Sort.ahead w q) hg d, by simp; omega, hc2, by unfold Sort.putCells; rw [Array.size_mapIdx, hsz, Nat.mul_one], ?_⟩⟩
      rw [Nat.mul_one]
      apply List.ext_getElem?
      intro j
      rw [List.getElem?_take]
      obtain ⟨r, hr⟩ : ∃ r, l.take i ++ l.drop (i + 1) = r := ⟨_, rfl⟩
      rw [hr]
      have hrl : r.length + 1 = l.length := by rw [← hr]; simp; omega
      have hdl : d = (r ++ [0]).toArray := by rw [← hd, ← hr]; simp
      split
      · rename_i hj
        unfold Sort.putCells
        rw [Array.getElem?_toList, Array.getElem?_mapIdx]
        have hjc : j < cur.size := by omega
        rw [Array.getElem?_eq_getElem hjc, Option.map_some, if_pos ⟨Nat.zero_le _, by rw [hdl]; simp; omega⟩]
        rw [List.getElem?_map, List.getElem?_eq_getElem hj, hdl, Nat.sub_zero, getBang _ _ (by simp; omega), List.getElem_append_left hj]
        rfl
      · rename_i hj
        rw [List.getElem?_eq_none (by simp; omega)]
    · have hU := putRow_upd (Sort.ahead w q) g (l.toArray.toList.take i ++ l.toArray.toList.drop (i + 1) ++ List.replicate (i + 1 - i) 0).toArray
      exact ⟨hU.os, hU.tape, hU.output, hU.size, fun b hb hF => hU.block b hb (fun e => hF (by rw [e]; rfl))⟩

theorem wpList_append_one {w : World} {ops : Array Oper} {rest : List Oper} {o : Oper} {a : Act} {Q : Exit → Act → World → Prop} (hgd : o.guard = none) (s x : Operand)
    (ho : o.op = .call { callee := .builtin .append, args := #[s, x], argTypes := #[48, 48] })
    (B : Nat) (v : Value) (l : List Nat) (hs : a.eval s = v) (hown : UOwn w B v l) (X y : Nat) (hx : a.eval x = .slice (some ⟨X, 0, none⟩) 1 1) (hX : w.heap[X]? = some (.cells #[.int .u16 (y : Int)] 51))
    (hlen : l.length ≤ 1000000) (hB : B ≤ w.heap.size)
    (h : ∀ v' w', UOwn w' B v' (l ++ [y]) → w.grownBy w' v.ownBlock → (v'.ownBlock = v.ownBlock ∨ v'.ownBlock = some w.heap.size) → wpList Try.prog ops Q rest (a.put o.dst v') w') :
    wpList Try.prog ops Q (o :: rest) a w := by
  obtain ⟨i0, hi, hz0, hz1, hz2⟩ := info_parts Try.info51
  refine wpList_plain hgd fun K hK => ?_
  obtain ⟨v', w', hr, h2, h3, h4, h5⟩ := run_append_own_at (P := Try.prog) w B 48 o.type 51 i0 (.int .u16 0) 1 2 Try.underlying48 hi hz0 hz1 hz2 rfl (by decide) v l.length (l.map uv) hown ⟨X, 0, none⟩ 1 1 [uv y] rfl
    (fun j u hu => by rw [Addr.add_lit, Nat.zero_add, cell_blk hX]; simpa [uv] using hu) (fun u hu => by simp at hu; subst hu; rfl)
    (by unfold maxLen; omega) (by omega) hB
  unfold Oper.wp execOp
  simp only [ho, resolve, invoke, builtin, Sem.run_bind, Sem.run_pure, Result.andThen_ok, List.map_toArray, List.map_cons, List.map_nil, hs, hx, hr]
  exact hK _ _ (h v' w' (by unfold UOwn; rw [List.length_append, List.map_append]; exact h2) h3 h5)
/-- Kept blocks are changed, others are made, and others are kept from then on. -/
theorem BG.turn {G G' : Nat → Prop} {w0 w w' : World} {D : Nat} {s : Bs} (h : BG G w0 D s w) (hU : Upd (fun b => G b ∧ w0.heap.size ≤ b) w w') (hG : ∀ b, G' b → G b ∨ (w.heap.size ≤ b ∧ b < w'.heap.size)) : BG G' w0 D s w' := by
  obtain ⟨vb, ps, h1, h2, h3, h4⟩ := h
  refine ⟨vb, ps, h1.upd hU (fun b hb hg => (h4 b hg.1).2 hb), h2.trans ⟨hU.os, hU.tape, hU.output, hU.size, fun b hb => hU.block b (Nat.lt_of_lt_of_le hb h2.size) (fun hg => by have := hg.2; omega)⟩, h3, fun b hg => ?_⟩
  rcases hG b hg with k | k
  · exact ⟨Nat.lt_of_lt_of_le (h4 b k).1 hU.size, (h4 b k).2⟩
  · exact ⟨k.2, fun hf => by have := h1.foot_lt hf; omega⟩
/-- The numbers turn, and with them their block. -/
theorem MS.turn {w w1 w2 : World} {D : Nat} {s : Bs} {v v' : Value} {l l' : List Nat} (h : MS (fun _ => False) w D s v l w1) (hu : UOwn w2 w.heap.size v' l') (hU : Upd (fun b => v.ownBlock = some b) w1 w2) (hn : v'.ownBlock = v.ownBlock ∨ ∀ b, v'.ownBlock = some b → w1.heap.size ≤ b) : MS (fun _ => False) w D s v' l' w2 :=
  ⟨h.bg.turn (hU.mono (fun b hb => .inl ⟨.inl hb, (World.ownsRow.lt h.u b hb).1⟩)) (fun b hb => by
    rcases hb with hb | hb
    · rcases hn with e | e
      · exact .inl (.inl (e ▸ hb))
      · exact .inr ⟨e b hb, (World.ownsRow.lt hu b hb).2⟩
    · exact hb.elim), hu⟩
/-- A move: what is done, and a number. -/
structure Mv where
  kind : Nat
  n : Nat
/-- A list of moves that lies in memory. -/
structure MovesAt (w : World) (A : Option Addr) (n C : Nat) (l : List Mv) : Prop where
  len : l.length = n
  le : n ≤ C
  max : C ≤ maxLen
  small : ∀ (j : Nat) (m : Mv), l[j]? = some m → m.kind ≤ 255 ∧ m.n ≤ 65535
  cells : ∀ (j : Nat) (m : Mv), l[j]? = some m → ∃ b off, A = some ⟨b, off, none⟩ ∧ w.cell? ⟨b, off + j * 2, none⟩ = some (.int .u8 (m.kind : Int)) ∧ w.cell? ⟨b, off + (j * 2 + 1), none⟩ = some (.int .u16 (m.n : Int))
theorem MovesAt.below {w w' : World} {A : Option Addr} {n C : Nat} {l : List Mv} (h : MovesAt w A n C l) (hb : Below w.heap.size w w') : MovesAt w' A n C l :=
  ⟨h.len, h.le, h.max, h.small, fun j m hm => by
    obtain ⟨b, off, h1, h2, h3⟩ := h.cells j m hm
    exact ⟨b, off, h1, (hb.cell (p := ⟨b, _, none⟩) (World.block_lt_of_cell? _ _ h2)).trans h2, (hb.cell (p := ⟨b, _, none⟩) (World.block_lt_of_cell? _ _ h3)).trans h3⟩⟩
theorem MovesAt.take {w : World} {A : Option Addr} {n C : Nat} {l : List Mv} (h : MovesAt w A n C l) (m : Nat) (hm : m ≤ n) : MovesAt w A m C (l.take m) := by
  have hg : ∀ (j : Nat) x, (l.take m)[j]? = some x → l[j]? = some x := fun j x hx => by
    rw [List.getElem?_take] at hx
    split at hx
    · exact hx
    · cases hx
  exact ⟨by rw [List.length_take, h.len]; omega, Nat.le_trans hm h.le, h.max, fun j x hx => h.small j x (hg j x hx), fun j x hx => h.cells j x (hg j x hx)⟩

def IsMoves (w : World) (a : Option Addr) (n cap : Nat) : Prop := ∃ l, MovesAt w a n cap l
theorem two {α : Type} : ∀ (l : List α), l.length = 2 → ∃ a b, l = [a, b]
  | [a, b], _ => ⟨a, b, rfl⟩
theorem spot_none {b off : Nat} {spot} {w : World} {v : Value} (h : w.cell? ⟨b, off, spot⟩ = some v) : spot = none := by
  cases spot with
  | none => rfl
  | some s =>
    unfold World.cell? at h
    split at h <;> simp at h
theorem wf_u8 {n : Int} (h : (Lit.int .u8 n).wf = true) : ∃ k : Nat, n = (k : Int) ∧ k ≤ 255 := by
  simp only [Lit.wf, Bool.and_eq_true, decide_eq_true_eq] at h
  have h1 : (0 : Int) ≤ n := h.1
  have h2 : n ≤ 255 := h.2
  exact ⟨n.toNat, by omega, by omega⟩
theorem wf_u16 {n : Int} (h : (Lit.int .u16 n).wf = true) : ∃ k : Nat, n = (k : Int) ∧ k ≤ 65535 := by
  simp only [Lit.wf, Bool.and_eq_true, decide_eq_true_eq] at h
  have h1 : (0 : Int) ≤ n := h.1
  have h2 : n ≤ 65535 := h.2
  exact ⟨n.toNat, by omega, by omega⟩
theorem move_of_trod {H : Type} {enc : TypeId × Value → H} {W : World} {base : Nat} {held : Bool} {fuel : Nat} {cs : List Value} {x : DataW H × List MemPlace}
    (h : DataW.trod enc Try.prog W base (fun _ => true) held fuel 65 cs = some x) : ∃ m : Mv, cs = [.int .u8 (m.kind : Int), .int .u16 (m.n : Int)] ∧ m.kind ≤ 255 ∧ m.n ≤ 65535 := by
  obtain ⟨xs, k, _, rfl, hl, hlen, hf⟩ := DataW.trod_struct Try.underlying65 h
  have hl2 : cs.length = 2 := by rw [hl]; kernel_rfl
  obtain ⟨u0, u1, rfl⟩ := two cs hl2
  have hxl : xs.length = 2 := hlen
  obtain ⟨y0, y1, rfl⟩ := two xs hxl
  have h0 := hf 0 _ rfl
  have h1 := hf 1 _ rfl
  have c5 : Try.prog.cellsOf 5 = 1 := by kernel_rfl
  have c51 : Try.prog.cellsOf 51 = 1 := by kernel_rfl
  obtain ⟨a, e0, -, w0⟩ := DataW.trod_int Try.underlying5 h0
  obtain ⟨b, e1, -, w1⟩ := DataW.trod_int Try.underlying51 h1
  change List.take (Try.prog.cellsOf 5) _ = _ at e0
  change List.take (Try.prog.cellsOf 51) _ = _ at e1
  rw [c5] at e0
  rw [c51] at e1
  simp at e0 e1
  subst e0 e1
  obtain ⟨a', rfl, ha⟩ := wf_u8 w0
  obtain ⟨b', rfl, hb⟩ := wf_u16 w1
  exact ⟨⟨a', b'⟩, rfl, ha, hb⟩
theorem isMoves_of_trod {H : Type} {enc : TypeId × Value → H} {W : World} {base : Nat} {held : Bool} {fuel : Nat} {a : Option Addr} {n cap : Nat} {x : DataW H × List MemPlace}
    (h : DataW.trod enc Try.prog W base (fun _ => true) held fuel 63 (Value.cells (.slice a n cap)).toList = some x) : IsMoves W a n cap := by
  rcases Deep.open_slice Try.underlying63 h with ⟨hcs, _⟩ | ⟨ad, l, c, m, k, D, Pl, hcs, hb, hl, hm, hmm, _, hi⟩
  · simp [Value.cells] at hcs
    obtain ⟨rfl, rfl, rfl⟩ := hcs
    exact ⟨[], rfl, Nat.le_refl _, Nat.zero_le _, fun j m h => by simp at h, fun j m h => by simp at h⟩
  · simp [Value.cells] at hcs
    obtain ⟨rfl, rfl, rfl⟩ := hcs
    simp only [if_true] at hmm
    subst hmm
    have hc65 : Try.prog.cellsOf 65 = 2 := by kernel_rfl
    simp only [hc65] at hi
    obtain ⟨b, off, spot⟩ := ad
    by_cases h0 : n = 0
    · exact ⟨[], h0.symm, hl, hm, fun j m h => by simp at h, fun j m h => by simp at h⟩
    have hs : spot = none := by
      obtain ⟨cs', e1, e2⟩ := hi 0 (by omega)
      obtain ⟨-, e4, e5⟩ := World.cells?_some e1
      obtain ⟨s, rfl, -⟩ := move_of_trod e2
      have g0 := e5 0 (by decide)
      rw [Nat.zero_mul] at g0
      exact spot_none (b := b) (off := off) (w := W) (v := .int .u8 (s.kind : Int)) (by unfold Addr.add at g0; simpa using g0)
    subst hs
    have each : ∀ r, r < n → ∃ s : Mv, (s.kind ≤ 255 ∧ s.n ≤ 65535) ∧ W.cell? ⟨b, off + r * 2, none⟩ = some (.int .u8 (s.kind : Int)) ∧ W.cell? ⟨b, off + (r * 2 + 1), none⟩ = some (.int .u16 (s.n : Int)) := by
      intro r hr
      obtain ⟨cs', e1, e2⟩ := hi r (by omega)
      obtain ⟨-, e4, e5⟩ := World.cells?_some e1
      obtain ⟨s, rfl, f1, f2⟩ := move_of_trod e2
      have g0 := e5 0 (by decide)
      have g1 := e5 1 (by decide)
      rw [Addr.add_lit, Addr.add_lit] at g0 g1
      simp at g0 g1
      exact ⟨s, ⟨f1, f2⟩, g0, by rw [← Nat.add_assoc]; exact g1⟩
    have hch : ∀ k, k ≤ n → ∃ ss : List Mv, ss.length = k ∧ ∀ r s, ss[r]? = some s → (s.kind ≤ 255 ∧ s.n ≤ 65535) ∧ W.cell? ⟨b, off + r * 2, none⟩ = some (.int .u8 (s.kind : Int)) ∧ W.cell? ⟨b, off + (r * 2 + 1), none⟩ = some (.int .u16 (s.n : Int)) := by
      intro k
      induction k with
      | zero => exact fun _ => ⟨[], rfl, fun r s hr => by simp at hr⟩
      | succ k ih =>
        intro hk
        obtain ⟨ss, e1, e2⟩ := ih (by omega)
        obtain ⟨t, f⟩ := each k (by omega)
        refine ⟨ss ++ [t], by simp [e1], fun r s hr => ?_⟩
        rcases Nat.lt_or_ge r k with h | h
        · rw [List.getElem?_append_left (by omega)] at hr; exact e2 r s hr
        · rw [List.getElem?_append_right (by omega), e1] at hr
          have : r - k = 0 := by
            have := (List.getElem?_eq_some_iff.1 hr).1
            simp at this; omega
          rw [this] at hr
          obtain rfl : r = k := by omega
          cases hr
          exact f
    obtain ⟨ss, e1, e2⟩ := hch n (Nat.le_refl _)
    exact ⟨ss, e1, hl, hm, fun j m h => (e2 j m h).1, fun j m h => by
      obtain ⟨-, g0, g1⟩ := e2 j m h
      exact ⟨b, off, rfl, g0, g1⟩⟩
end Go.Proofs.Ytkfkleafonpbgaa
