/- Messages in memory; what Fill does. -/
import Derived.Test.YtjkgbofeogaeoaaFetch4
import Derived.Test.YtjkgbofeogaeoaaTwo
namespace Go.Proofs.Ytjkgbofeogaeoaa
open Go.RowKit Go.Shelf Go.Maps

/-- A message as it lies in memory. -/
structure Mc where
  kind : Int
  frm : Int
  dst : Int
  round : Int
  node : Int
  slot : Int
  num : Int
  val : ByteArray
  la : Option Addr
  ln : Nat
  lc : Nat
def mcs (m : Mc) : List Value := [.int .i64 m.kind, .int .i64 m.frm, .int .i64 m.dst, .int .i64 m.round, .int .i64 m.node, .int .i64 m.slot, .int .i64 m.num, .string m.val, .slice m.la m.ln m.lc]
def mcells (l : List Mc) : List Value := l.flatMap mcs
theorem mcells_len (l : List Mc) : (mcells l).length = l.length * 9 := by
  unfold mcells
  induction l with
  | nil => rfl
  | cons x r ih => rw [List.flatMap_cons, List.length_append, ih, List.length_cons]; show 9 + _ = _; omega
theorem mcells_append (l m : List Mc) : mcells (l ++ m) = mcells l ++ mcells m := by unfold mcells; rw [List.flatMap_append]
theorem mcells_at (l : List Mc) (i : Nat) (m : Mc) (h : l[i]? = some m) : ∀ k, k < 9 → (mcells l)[i * 9 + k]? = (mcs m)[k]? := by
  have hi := (List.getElem?_eq_some_iff.1 h).1
  have hsplit : mcells l = mcells (l.take i) ++ (mcs m ++ mcells (l.drop (i + 1))) := by
    conv => lhs; rw [← List.take_append_drop i l, List.drop_eq_getElem_cons hi, mcells_append]
    have : l[i] = m := by rw [List.getElem?_eq_getElem hi] at h; exact Option.some.inj h
    rw [this]; rfl
  have hl : (mcells (l.take i)).length = i * 9 := by rw [mcells_len, List.length_take, Nat.min_eq_left (by omega)]
  intro k hk
  rw [hsplit, List.getElem?_append_right (by omega), hl, List.getElem?_append_left (by show _ < 9; omega)]
  congr 1; omega
/-- What is told of a slice of messages. -/
structure MV (w : World) (A : Option Addr) (n C : Nat) (l : List Mc) : Prop where
  len : l.length = n
  le : n ≤ C
  max : C ≤ maxLen
  cells : l = [] ∨ ∃ b off, A = some ⟨b, off, none⟩ ∧ b < w.heap.size ∧ ∀ j u, (mcells l)[j]? = some u → w.cell? ⟨b, off + j, none⟩ = some u
/-- A list of messages of the call's own. -/
def QOwn (w : World) (B : Nat) (v : Value) (l : List Mc) : Prop := w.ownsRow B 74 9 v l.length (mcells l)
section
variable {w w' : World} {A : Option Addr} {n C B B' : Nat} {l : List Mc} {v : Value}
theorem MV.below (h : MV w A n C l) (hb : Below w.heap.size w w') : MV w' A n C l := by
  refine ⟨h.len, h.le, h.max, ?_⟩
  rcases h.cells with h | ⟨b, off, h1, h2, h3⟩
  · exact .inl h
  · exact .inr ⟨b, off, h1, Nat.lt_of_lt_of_le h2 hb.size, fun j u hu => (hb.cell (p := ⟨b, off + j, none⟩) h2).trans (h3 j u hu)⟩
theorem MV.row (h : MV w A n C l) (i : Nat) (m : Mc) (hi : l[i]? = some m) : ∃ b off, A = some ⟨b, off, none⟩ ∧ b < w.heap.size ∧
    w.cell? ⟨b, off + i * 9, none⟩ = some (.int .i64 m.kind) ∧ w.cell? ⟨b, off + i * 9 + 1, none⟩ = some (.int .i64 m.frm) ∧ w.cell? ⟨b, off + i * 9 + 2, none⟩ = some (.int .i64 m.dst) ∧ w.cell? ⟨b, off + i * 9 + 3, none⟩ = some (.int .i64 m.round) ∧ w.cell? ⟨b, off + i * 9 + 4, none⟩ = some (.int .i64 m.node) ∧ w.cell? ⟨b, off + i * 9 + 5, none⟩ = some (.int .i64 m.slot) ∧ w.cell? ⟨b, off + i * 9 + 6, none⟩ = some (.int .i64 m.num) ∧ w.cell? ⟨b, off + i * 9 + 7, none⟩ = some (.string m.val) ∧ w.cell? ⟨b, off + i * 9 + 8, none⟩ = some (.slice m.la m.ln m.lc) := by
  rcases h.cells with rfl | ⟨b, off, h1, h2, h3⟩
  · simp at hi
  · have hk : ∀ k u, k < 9 → (mcs m)[k]? = some u → w.cell? ⟨b, off + i * 9 + k, none⟩ = some u := fun k u hk hu => by
      have := h3 (i * 9 + k) u (by rw [mcells_at l i m hi k hk]; exact hu)
      rwa [← Nat.add_assoc] at this
    exact ⟨b, off, h1, h2, hk 0 _ (by omega) rfl, hk 1 _ (by omega) rfl, hk 2 _ (by omega) rfl, hk 3 _ (by omega) rfl, hk 4 _ (by omega) rfl, hk 5 _ (by omega) rfl, hk 6 _ (by omega) rfl, hk 7 _ (by omega) rfl, hk 8 _ (by omega) rfl⟩
theorem QOwn.below (h : QOwn w B v l) (hb : Below w.heap.size w w') : QOwn w' B v l := by
  refine ⟨h.1, ?_⟩
  rcases h.2 with hn | ⟨g, cap, cur, hv, hB, hg, r⟩
  · exact .inl hn
  · exact .inr ⟨g, cap, cur, hv, hB, blk_below' hg hb, r⟩
theorem QOwn.upd {F : Nat → Prop} (h : QOwn w B v l) (hU : Upd F w w') (hF : ∀ b, v.ownBlock = some b → ¬ F b) : QOwn w' B v l := by
  refine ⟨h.1, ?_⟩
  rcases h.2 with hn | ⟨g, cap, cur, hv, hB, hg, r⟩
  · exact .inl hn
  · exact .inr ⟨g, cap, cur, hv, hB, hU.blk hg (hF g (by rw [hv]; rfl)), r⟩
theorem QOwn.shape (h : QOwn w B v l) (n : Nat) (hn : l.length = n) : ∃ A C, v = .slice A n C := by
  subst hn
  rcases h.2 with ⟨h1, h2⟩ | ⟨g, cap, cur, h1, _⟩
  · exact ⟨none, 0, by rw [h1, h2]⟩
  · exact ⟨_, cap, h1⟩
theorem QOwn.mv (h : QOwn w B (.slice A n C) l) (hn : l.length = n) : MV w A n C l := by
  subst hn
  rcases h.2 with ⟨h1, h2⟩ | ⟨g, cap, cur, h1, h2, h3, h4, h5, h6, h7⟩
  · obtain rfl : l = [] := List.eq_nil_of_length_eq_zero h2
    cases h1
    exact ⟨rfl, Nat.le_refl _, Nat.zero_le _, .inl rfl⟩
  · cases h1
    refine ⟨rfl, h4, h5, .inr ⟨g, 0, rfl, lt_of_blk h3, fun j u hu => ?_⟩⟩
    rw [cell_blk h3, Nat.zero_add]
    rw [← h7, List.getElem?_take] at hu
    split at hu
    · simpa using hu
    · cases hu
end
theorem wpList_append_msg {w : World} {ops : Array Oper} {rest : List Oper} {o : Oper} {a : Act} {Q : Exit → Act → World → Prop} (hgd : o.guard = none) (s x : Operand)
    (ho : o.op = .call { callee := .builtin .append, args := #[s, x], argTypes := #[67, 67] })
    (B : Nat) (v : Value) (l : List Mc) (hs : a.eval s = v) (hown : QOwn w B v l) (X : Nat) (m : Mc) (hx : a.eval x = .slice (some ⟨X, 0, none⟩) 1 1) (hX : w.heap[X]? = some (.cells (mcs m).toArray 74))
    (hlen : l.length ≤ 1000000) (hB : B ≤ w.heap.size)
    (h : ∀ v' w', QOwn w' B v' (l ++ [m]) → w.grownBy w' v.ownBlock → (v'.ownBlock = v.ownBlock ∨ v'.ownBlock = some w.heap.size) → wpList Try.prog ops Q rest (a.put o.dst v') w') :
    wpList Try.prog ops Q (o :: rest) a w := by
  obtain ⟨i0, hi, hz0, hz1, hz2⟩ := info_parts Try.info74
  refine wpList_plain hgd fun K hK => ?_
  obtain ⟨v', w', hr, h2, h3, h4, h5⟩ := run_append_own_at (P := Try.prog) w B 67 o.type 74 i0 _ 9 96 Try.underlying67 hi hz0 hz1 hz2 rfl (by decide) v l.length (mcells l) hown ⟨X, 0, none⟩ 1 1 (mcs m) rfl
    (fun j u hu => by rw [Addr.add_lit, Nat.zero_add, cell_blk hX]; simpa using hu) (fun u hu => by simp [mcs] at hu; rcases hu with rfl | rfl | rfl | rfl | rfl | rfl | rfl | rfl | rfl <;> rfl)
    (by unfold maxLen; omega) (by omega) hB
  unfold Oper.wp execOp
  simp only [ho, resolve, invoke, builtin, Sem.run_bind, Sem.run_pure, Result.andThen_ok, List.map_toArray, List.map_cons, List.map_nil, hs, hx, hr]
  exact hK _ _ (h v' w' (by unfold QOwn; rw [List.length_append, mcells_append]; simpa [mcells] using h2) h3 h5)
/-- The messages that matter. -/
def chosenL (l : List Mc) : List Mc := l.filter fun m => decide (m.kind = 6)
def badB (l : List Mc) : Bool := (chosenL l).any fun m => decide (m.slot < 0 ∨ 4096 ≤ m.slot)
def longB (l : List Mc) : Bool := (chosenL l).any fun m => decide (65536 < m.val.size)
/-- The values put, one after another; how many were new. -/
def fillGo : Ls → Int → List Mc → Option (Ls × Int)
  | s, n, [] => some (s, n)
  | s, n, m :: r => if putE s m.slot m.val = 9 then none else fillGo (putT s m.slot m.val) (if putE s m.slot m.val = 0 ∧ (s.f m.slot).isSome = false then n + 1 else n) r
def fillEnd (s : Ls) : Option (Ls × Int) → Int × Int × Ls
  | none => (0, 9, s)
  | some (s', n) => (n, 0, s')
/-- What Fill returns, and leaves. -/
def fillR (s : Ls) (l : List Mc) : Int × Int × Ls :=
  if badB l = true then (0, 2, s) else if longB l = true then (0, 11, s) else fillEnd s (fillGo s 0 (chosenL l))
theorem chosen_yes (l : List Mc) (k : Nat) (m : Mc) (h : l[k]? = some m) (hk : m.kind = 6) : chosenL (l.take (k + 1)) = chosenL (l.take k) ++ [m] := by
  have hi := (List.getElem?_eq_some_iff.1 h).1
  have : l[k] = m := by rw [List.getElem?_eq_getElem hi] at h; exact Option.some.inj h
  unfold chosenL
  rw [List.take_add_one, List.filter_append, h]
  simp [hk]
theorem chosen_no (l : List Mc) (k : Nat) (m : Mc) (h : l[k]? = some m) (hk : ¬ m.kind = 6) : chosenL (l.take (k + 1)) = chosenL (l.take k) := by
  unfold chosenL
  rw [List.take_add_one, List.filter_append, h]
  simp [hk]
theorem chosen_len (l : List Mc) (k : Nat) : (chosenL (l.take k)).length ≤ l.length := Nat.le_trans (List.length_filter_le _ _) (by rw [List.length_take]; omega)
theorem badB_take (l : List Mc) (k : Nat) (h : badB (l.take k) = true) : badB l = true := by
  unfold badB chosenL at *
  rw [List.any_eq_true] at h ⊢
  obtain ⟨m, hm, h⟩ := h
  refine ⟨m, ?_, h⟩
  rw [List.mem_filter] at hm ⊢
  exact ⟨List.mem_of_mem_take hm.1, hm.2⟩
theorem badB_yes (l : List Mc) (k : Nat) (m : Mc) (h : l[k]? = some m) (hk : m.kind = 6) : badB (l.take (k + 1)) = (badB (l.take k) || decide (m.slot < 0 ∨ 4096 ≤ m.slot)) := by
  unfold badB; rw [chosen_yes l k m h hk]; simp
theorem longB_yes (l : List Mc) (k : Nat) (m : Mc) (h : l[k]? = some m) (hk : m.kind = 6) : longB (l.take (k + 1)) = (longB (l.take k) || decide (65536 < m.val.size)) := by
  unfold longB; rw [chosen_yes l k m h hk]; simp
theorem badB_no (l : List Mc) (k : Nat) (m : Mc) (h : l[k]? = some m) (hk : ¬ m.kind = 6) : badB (l.take (k + 1)) = badB (l.take k) ∧ longB (l.take (k + 1)) = longB (l.take k) := by
  unfold badB longB; rw [chosen_no l k m h hk]; exact ⟨rfl, rfl⟩
theorem fillGo_cons (s : Ls) (n : Int) (m : Mc) (r : List Mc) : fillGo s n (m :: r) = if putE s m.slot m.val = 9 then none else fillGo (putT s m.slot m.val) (if putE s m.slot m.val = 0 ∧ (s.f m.slot).isSome = false then n + 1 else n) r := rfl
theorem fillGo_append (s : Ls) (n : Int) (l r : List Mc) : fillGo s n (l ++ r) = (fillGo s n l).bind fun x => fillGo x.1 x.2 r := by
  induction l generalizing s n with
  | nil => rfl
  | cons m l ih =>
    rw [List.cons_append, fillGo_cons, fillGo_cons]
    by_cases h : putE s m.slot m.val = 9
    · rw [if_pos h, if_pos h]; rfl
    · rw [if_neg h, if_neg h, ih]
theorem fillGo_snoc {s s' : Ls} {n n' : Int} {l : List Mc} (k : Nat) (m : Mc) (h : l[k]? = some m) (hg : fillGo s n (l.take k) = some (s', n')) : fillGo s n (l.take (k + 1)) = if putE s' m.slot m.val = 9 then none else some (putT s' m.slot m.val, if putE s' m.slot m.val = 0 ∧ (s'.f m.slot).isSome = false then n' + 1 else n') := by
  rw [List.take_add_one, h, fillGo_append, hg]
  rfl
theorem fillGo_stop {s : Ls} {n : Int} {l : List Mc} (k : Nat) (hg : fillGo s n (l.take k) = none) : fillGo s n l = none := by
  rw [← List.take_append_drop k l, fillGo_append, hg]
  rfl
theorem fillGo_num : ∀ {s s' : Ls} {n n' : Int} {l : List Mc}, fillGo s n l = some (s', n') → n ≤ n' ∧ n' ≤ n + l.length
  | s, s', n, n', [], h => by cases h; exact ⟨Int.le_refl _, by simp⟩
  | s, s', n, n', m :: r, h => by
    rw [fillGo_cons] at h
    by_cases e : putE s m.slot m.val = 9
    · rw [if_pos e] at h; cases h
    · rw [if_neg e] at h
      have ih := fillGo_num h
      rw [List.length_cons]
      split at ih <;> omega
theorem fillGo_lk : ∀ {s s' : Ls} {n n' : Int} {l : List Mc}, Lk s → fillGo s n l = some (s', n') → Lk s'
  | s, s', n, n', [], hk, h => by cases h; exact hk
  | s, s', n, n', m :: r, hk, h => by
    unfold fillGo at h
    by_cases e : putE s m.slot m.val = 9
    · rw [if_pos e] at h; cases h
    · rw [if_neg e] at h; exact fillGo_lk (hk.putT _ _) h
end Go.Proofs.Ytjkgbofeogaeoaa
