/- The document's logs in memory: what is told of them; the contracts that read them, and Put. -/
import Derived.Test.YtjkgbofeogaeoaaTwo
namespace Go.Proofs.Ytjkgbofeogaeoaa
open Go.RowKit Go.Shelf Go.Maps

theorem Try.info124 : (Try.prog.info? 124).map (fun i => (i.zero, i.size, i.bytes)) = some (some (.agg #[.int .i64 0, .string ⟨#[]⟩]), 2, 24) := by kernel_rfl
/-- The cells of a value at a slot. -/
def acells (x : Int × ByteArray) : List Value := [.int .i64 x.1, .string x.2]
theorem acells_len (l : List (Int × ByteArray)) : (l.flatMap acells).length = l.length * 2 := by
  induction l with
  | nil => rfl
  | cons x r ih => rw [List.flatMap_cons, List.length_append, ih, List.length_cons]; show 2 + _ = _; omega
theorem acells_one (l : List (Int × ByteArray)) : ∀ u ∈ l.flatMap acells, u.oneCell' = true := by
  intro u hu
  rw [List.mem_flatMap] at hu
  obtain ⟨m, -, hu⟩ := hu
  simp [acells] at hu
  rcases hu with rfl | rfl <;> rfl
theorem acells_at (l : List (Int × ByteArray)) (i : Nat) (x : Int × ByteArray) (h : l[i]? = some x) : (l.flatMap acells)[i * 2]? = some (.int .i64 x.1) ∧ (l.flatMap acells)[i * 2 + 1]? = some (.string x.2) := by
  have hi := (List.getElem?_eq_some_iff.1 h).1
  have hsplit : l.flatMap acells = (l.take i).flatMap acells ++ (acells x ++ (l.drop (i + 1)).flatMap acells) := by
    conv => lhs; rw [← List.take_append_drop i l, List.drop_eq_getElem_cons hi, List.flatMap_append, List.flatMap_cons]
    have : l[i] = x := by rw [List.getElem?_eq_getElem hi] at h; exact Option.some.inj h
    rw [this]
  have hl : ((l.take i).flatMap acells).length = i * 2 := by rw [acells_len, List.length_take, Nat.min_eq_left (by omega)]
  rw [hsplit]
  constructor
  · rw [List.getElem?_append_right (by omega), hl, Nat.sub_self]; rfl
  · rw [List.getElem?_append_right (by omega), hl, show i * 2 + 1 - i * 2 = 1 by omega]; rfl
/-- A list of values at slots of the call's own. -/
def AOwn (w : World) (B : Nat) (v : Value) (l : List (Int × ByteArray)) : Prop := w.ownsRow B 124 2 v l.length (l.flatMap acells)
section
variable {w w' : World} {B : Nat} {v : Value} {l : List (Int × ByteArray)}
theorem AOwn.blk_eq (h : AOwn w B v l) (hb : ∀ g, v.ownBlock = some g → w'.heap[g]? = w.heap[g]?) : AOwn w' B v l := by
  refine ⟨h.1, ?_⟩
  rcases h.2 with hn | ⟨g, cap, cur, hv, hB, hg, r⟩
  · exact .inl hn
  · exact .inr ⟨g, cap, cur, hv, hB, (hb g (by rw [hv]; rfl)).trans hg, r⟩
theorem AOwn.below (h : AOwn w B v l) (hb : Below w.heap.size w w') : AOwn w' B v l := h.blk_eq (fun g hg => hb.block g (World.ownsRow.lt h g hg).2)
theorem AOwn.upd {F : Nat → Prop} (h : AOwn w B v l) (hU : Upd F w w') (hF : ∀ g, v.ownBlock = some g → ¬ F g) : AOwn w' B v l := h.blk_eq (fun g hg => hU.block g (World.ownsRow.lt h g hg).2 (hF g hg))
theorem AOwn.shape (h : AOwn w B v l) (n : Nat) (hn : l.length = n) : ∃ A C, v = .slice A n C ∧ n ≤ C ∧ C ≤ maxLen := by
  subst hn
  rcases h.2 with ⟨h1, h2⟩ | ⟨g, cap, cur, h1, -, -, h3, h4, -⟩
  · exact ⟨none, 0, by rw [h1, h2], by omega, Nat.zero_le _⟩
  · exact ⟨_, cap, h1, h3, h4⟩
theorem AOwn.at {A : Option Addr} {n C : Nat} (h : AOwn w B (.slice A n C) l) (i : Nat) (x : Int × ByteArray) (hx : l[i]? = some x) : ∃ g, A = some ⟨g, 0, none⟩ ∧ g < w.heap.size ∧ w.cell? ⟨g, i * 2, none⟩ = some (.int .i64 x.1) ∧ w.cell? ⟨g, i * 2 + 1, none⟩ = some (.string x.2) := by
  rcases h.2 with ⟨h1, h2⟩ | ⟨g, cap, cur, h1, -, h3, -, -, -, h7⟩
  · rw [List.eq_nil_of_length_eq_zero h2] at hx; simp at hx
  · cases h1
    obtain ⟨c0, c1⟩ := acells_at l i x hx
    refine ⟨g, rfl, lt_of_blk h3, ?_, ?_⟩
    · rw [cell_blk h3]
      rw [← h7, List.getElem?_take] at c0
      split at c0
      · simpa using c0
      · cases c0
    · rw [cell_blk h3]
      rw [← h7, List.getElem?_take] at c1
      split at c1
      · simpa using c1
      · cases c1
end
/-- A value is appended. -/
theorem wpList_append_slot {w : World} {ops : Array Oper} {rest : List Oper} {o : Oper} {a : Act} {Q : Exit → Act → World → Prop} (hgd : o.guard = none) (s x : Operand)
    (ho : o.op = .call { callee := .builtin .append, args := #[s, x], argTypes := #[120, 120] })
    (B : Nat) (v : Value) (l : List (Int × ByteArray)) (hs : a.eval s = v) (hown : AOwn w B v l) (X : Nat) (m : Int × ByteArray) (hx : a.eval x = .slice (some ⟨X, 0, none⟩) 1 1) (hX : w.heap[X]? = some (.cells #[.int .i64 m.1, .string m.2] 124))
    (hlen : l.length ≤ 1000000) (hB : B ≤ w.heap.size)
    (h : ∀ v' w', AOwn w' B v' (l ++ [m]) → w.grownBy w' v.ownBlock → (v'.ownBlock = v.ownBlock ∨ v'.ownBlock = some w.heap.size) → wpList Try.prog ops Q rest (a.put o.dst v') w') :
    wpList Try.prog ops Q (o :: rest) a w := by
  obtain ⟨i0, hi, hz0, hz1, hz2⟩ := info_parts Try.info124
  refine wpList_plain hgd fun K hK => ?_
  obtain ⟨v', w', hr, h2, h3, h4, h5⟩ := run_append_own_at (P := Try.prog) w B 120 o.type 124 i0 _ 2 24 Try.underlying120 hi hz0 hz1 hz2 rfl (by decide) v l.length (l.flatMap acells) hown ⟨X, 0, none⟩ 1 1 (acells m) rfl
    (fun j u hu => by rw [Addr.add_lit, Nat.zero_add, cell_blk hX]; simpa [acells] using hu) (fun u hu => by simp [acells] at hu; rcases hu with rfl | rfl <;> rfl)
    (by unfold maxLen; omega) (by omega) hB
  unfold Oper.wp execOp
  simp only [ho, resolve, invoke, builtin, Sem.run_bind, Sem.run_pure, Result.andThen_ok, List.map_toArray, List.map_cons, List.map_nil, hs, hx, hr]
  exact hK _ _ (h v' w' (by unfold AOwn; rw [List.length_append, List.flatMap_append]; simpa using h2) h3 h5)
/-- The value of a slot in a list of values. -/
def rget : List (Int × ByteArray) → Int → Option ByteArray
  | [], _ => none
  | x :: r, k => if x.1 = k then some x.2 else rget r k
theorem rget_snoc (l : List (Int × ByteArray)) (x : Int × ByteArray) (k : Int) : rget (l ++ [x]) k = match rget l k with | some v => some v | none => if x.1 = k then some x.2 else none := by
  induction l with
  | nil => rfl
  | cons y r ih =>
    show (if y.1 = k then some y.2 else rget (r ++ [x]) k) = match (if y.1 = k then some y.2 else rget r k) with | some v => some v | none => _
    by_cases e : y.1 = k
    · rw [if_pos e, if_pos e]
    · rw [if_neg e, if_neg e, ih]
theorem rget_mem (l : List (Int × ByteArray)) (x : Int × ByteArray) (h : x ∈ l) : (rget l x.1).isSome = true := by
  induction l with
  | nil => cases h
  | cons y r ih =>
    show (if y.1 = x.1 then some y.2 else rget r x.1).isSome = true
    by_cases e : y.1 = x.1
    · rw [if_pos e]; rfl
    · rw [if_neg e]
      rcases List.mem_cons.1 h with rfl | h
      · exact absurd rfl e
      · exact ih h
/-- A log of the document that lies in memory: block R, its list v, all made behind B. -/
structure RefAt (B : Nat) (w : World) (R : Nat) (v : Value) (l : List (Int × ByteArray)) (c : Nat) (s : Ls) : Prop where
  blk : w.heap[R]? = some (.cells #[.bool true, .int .i64 s.base, v] 122)
  own : AOwn w B v l
  len : l.length ≤ c
  abs : ∀ k, rget l k = s.f k
  ne : v.ownBlock ≠ some R
  ok : Lk s
  lo : B ≤ R
section
variable {B R c : Nat} {w w' : World} {v : Value} {l : List (Int × ByteArray)} {s : Ls}
theorem RefAt.below (h : RefAt B w R v l c s) (hb : Below w.heap.size w w') : RefAt B w' R v l c s := ⟨blk_below' h.blk hb, h.own.below hb, h.len, h.abs, h.ne, h.ok, h.lo⟩
theorem RefAt.upd {F : Nat → Prop} (h : RefAt B w R v l c s) (hU : Upd F w w') (hR : ¬ F R) (hF : ∀ g, v.ownBlock = some g → ¬ F g) : RefAt B w' R v l c s := ⟨hU.blk h.blk hR, h.own.upd hU hF, h.len, h.abs, h.ne, h.ok, h.lo⟩
theorem RefAt.mono {B' c' : Nat} (h : RefAt B w R v l c s) (hB : B' ≤ B) (hc : c ≤ c') : RefAt B' w R v l c' s := by
  refine ⟨h.blk, ⟨h.own.1, ?_⟩, Nat.le_trans h.len hc, h.abs, h.ne, h.ok, Nat.le_trans hB h.lo⟩
  rcases h.own.2 with hn | ⟨g, cap, cur, hv, hB', r⟩
  · exact .inl hn
  · exact .inr ⟨g, cap, cur, hv, Nat.le_trans hB hB', r⟩
theorem RefAt.cells (h : RefAt B w R v l c s) : w.cell? ⟨R, 0, none⟩ = some (.bool true) ∧ w.cell? ⟨R, 1, none⟩ = some (.int .i64 s.base) ∧ w.cell? ⟨R, 2, none⟩ = some v ∧ R < w.heap.size ∧ ∀ i, w.frozen? ⟨R, i, none⟩ = false :=
  ⟨by rw [cell_blk h.blk]; rfl, by rw [cell_blk h.blk]; rfl, by rw [cell_blk h.blk]; rfl, lt_of_blk h.blk, fun i => free_blk h.blk i⟩
theorem RefAt.slots (h : RefAt B w R v l c s) (x : Int × ByteArray) (hx : x ∈ l) : s.base ≤ x.1 ∧ 0 ≤ x.1 ∧ x.1 < 4096 := by
  have := h.ok.dom x.1 (by rw [← h.abs]; exact rget_mem l x hx)
  have h1 := h.ok.b0
  have h2 := h.ok.t4
  omega
theorem valid87 (h : RefAt B w R v l c s) : Calls Try.prog 87 #[.pointer (some ⟨R, 0, none⟩)] w fun e w' => e = .returned (.bool true) ∧ w = w' := by
  obtain ⟨c0, c1, c2, zR, -⟩ := h.cells
  clear h
  go_enter Try.func87, Try.ntmps87
  go_wp2
  go_ret
  exact ⟨rfl, rfl⟩
theorem valid96 (h : RefAt B w R v l c s) : Calls Try.prog 96 #[.pointer (some ⟨R, 0, none⟩)] w fun e w' => e = .returned (.bool true) ∧ w = w' := by
  obtain ⟨c0, c1, c2, zR, -⟩ := h.cells
  clear h
  go_enter Try.func96, Try.ntmps96
  go_wp2
  go_ret
  exact ⟨rfl, rfl⟩
theorem rbase84 (h : RefAt B w R v l c s) : Calls Try.prog 84 #[.pointer (some ⟨R, 0, none⟩)] w fun e w' => e = .returned (.int .i64 s.base) ∧ w = w' := by
  obtain ⟨c0, c1, c2, zR, -⟩ := h.cells
  have HV := Lib.hid (valid87 h)
  clear h
  go_enter Try.func84, Try.ntmps84
  go_wp2_with (go_at_call 87; refine HV.out.mono ?_; rintro e w' ⟨rfl, rfl⟩)
  go_ret
  exact ⟨rfl, rfl⟩
set_option maxRecDepth 20000 in
set_option maxHeartbeats 1000000 in
theorem rget67 (h : RefAt B w R v l c s) (hc : c ≤ 1000000) (k : Int) : Calls Try.prog 67 #[.pointer (some ⟨R, 0, none⟩), .int .i64 k] w fun e w' => e = .returned (.tuple #[.string ((s.f k).getD ⟨#[]⟩), .bool (s.f k).isSome]) ∧ w = w' := by
  obtain ⟨n, hn⟩ : ∃ n, l.length = n := ⟨_, rfl⟩
  obtain ⟨A, C, rfl, hnC, hC⟩ := h.own.shape n hn
  have hC9 : C ≤ 9223372036854775807 := hC
  have hnc : n ≤ 1000000 := by have := h.len; omega
  obtain ⟨c0, c1, c2, zR, -⟩ := h.cells
  have HV := Lib.hid (And.intro (valid87 h) (And.intro h hn))
  rw [← h.abs]
  clear h hn
  go_enter Try.func67, Try.ntmps67
  go_wp2_with (go_at_call 87; refine HV.out.1.mono ?_; rintro e w' ⟨rfl, rfl⟩)
  go_loopw [6] (fun i wr => ∃ j : Nat, j ≤ n ∧ i = .int .i64 (j : Int) ∧ rget l k = rget (l.drop j) k ∧ w = wr) (fun i _ => n - (intOf i).toNat)
  case atStart => exact ⟨0, Nat.zero_le _, rfl, rfl, by first | rfl | trivial⟩
  case round =>
    obtain ⟨j, hj, rfl, hr, rfl⟩ := hrel
    by_cases hlt : j < n
    · have hjl : j < l.length := by rw [HV.out.2.2]; exact hlt
      obtain ⟨x, hx⟩ : ∃ x, l[j]? = some x := ⟨_, List.getElem?_eq_getElem hjl⟩
      have hd : l.drop j = x :: l.drop (j + 1) := by
        rw [List.drop_eq_getElem_cons hjl]
        rw [List.getElem?_eq_getElem hjl] at hx
        rw [Option.some.inj hx]
      obtain ⟨g, rfl, zg, y0, y1⟩ := HV.out.2.1.own.at j x hx
      rw [hd] at hr
      by_cases hk : x.1 = k
      · have hr' : rget l k = some x.2 := by rw [hr]; show (if x.1 = k then some x.2 else _) = _; rw [if_pos hk]
        have HR := Lib.hid hr'
        obtain ⟨xi, xv⟩ := x
        simp only at hk y0 y1
        subst hk
        clear hr hr' hd hx hjl
        go_wp2
        go_ret2
        exact ⟨by rw [HR.out]; rfl, rfl⟩
      · have hr' : rget l k = rget (l.drop (j + 1)) k := by rw [hr]; show (if x.1 = k then some x.2 else _) = _; rw [if_neg hk]
        have HR := Lib.hid hr'
        obtain ⟨xi, xv⟩ := x
        simp only at hk y0 y1
        clear hr hr' hd hx hjl
        go_wp2
        go_roundw
        case rel => exact ⟨j + 1, hlt, by go_num, HR.out, by first | rfl | trivial⟩
        case measure => simp [intOf]; omega
    · obtain rfl : j = n := by omega
      have hr' : rget l k = none := by rw [hr, List.drop_of_length_le (by rw [HV.out.2.2]; exact Nat.le_refl _)]; rfl
      have HR := Lib.hid hr'
      clear hr hr'
      go_wp2
      go_ret2
      exact ⟨by rw [HR.out]; rfl, rfl⟩
theorem rget_v (h : RefAt B w R v l c s) (hc : c ≤ 1000000) (k : Int) (u : ByteArray) (q : Bool) (hu : (s.f k).getD ⟨#[]⟩ = u) (hq : (s.f k).isSome = q) : Calls Try.prog 67 #[.pointer (some ⟨R, 0, none⟩), .int .i64 k] w fun e w' => e = .returned (.tuple #[.string u, .bool q]) ∧ w = w' := by
  subst hu hq; exact rget67 h hc k
theorem rhas106 (h : RefAt B w R v l c s) (hc : c ≤ 1000000) (k : Int) (q : Bool) (hq : (s.f k).isSome = q) : Calls Try.prog 106 #[.pointer (some ⟨R, 0, none⟩), .int .i64 k] w fun e w' => e = .returned (.bool q) ∧ w = w' := by
  obtain ⟨u, hu⟩ : ∃ u, (s.f k).getD ⟨#[]⟩ = u := ⟨_, rfl⟩
  have HG := Lib.hid (rget_v h hc k u q hu hq)
  clear h hu hq
  go_enter Try.func106, Try.ntmps106
  go_wp2_with (go_at_call 67; refine HG.out.mono ?_; rintro e w' ⟨rfl, rfl⟩)
  go_ret
  exact ⟨rfl, rfl⟩
set_option maxRecDepth 20000 in
set_option maxHeartbeats 1000000 in
theorem rupto83 (h : RefAt B w R v l c s) (hc : c ≤ 1000000) : Calls Try.prog 83 #[.pointer (some ⟨R, 0, none⟩)] w fun e w' => e = .returned (.int .i64 s.upto) ∧ w = w' := by
  obtain ⟨c0, c1, c2, zR, -⟩ := h.cells
  obtain ⟨u, hu⟩ : ∃ u, s.upto = u := ⟨_, rfl⟩
  obtain ⟨b, hb⟩ : ∃ b, s.base = b := ⟨_, rfl⟩
  have hbu := h.ok.bu
  have hb0 := h.ok.b0
  have hu4 : u ≤ 4096 := by have := h.ok.ut; have := h.ok.t4; omega
  rw [hb] at c1
  rw [hu]
  have HV := Lib.hid (And.intro (valid87 h) (And.intro h (And.intro hu hb)))
  rw [hu, hb] at hbu
  rw [hb] at hb0
  clear h hu hb
  go_enter Try.func83, Try.ntmps83
  go_wp2_with (go_at_call 87; refine HV.out.1.mono ?_; rintro e w' ⟨rfl, rfl⟩)
  go_loopw [3] (fun i wr => ∃ j : Int, b ≤ j ∧ j ≤ u ∧ i = .int .i64 j ∧ w = wr) (fun i _ => (u - intOf i).toNat)
  case atStart => exact ⟨b, Int.le_refl _, hbu, rfl, by first | rfl | trivial⟩
  case round =>
    obtain ⟨j, hj, hju, rfl, rfl⟩ := hrel
    by_cases hlt : j < u
    · have HH := Lib.hid (rhas106 HV.out.2.1 hc j true (HV.out.2.1.ok.run j (by rw [HV.out.2.2.2]; exact hj) (by rw [HV.out.2.2.1]; exact hlt)))
      go_wp2_with (go_at_call 106; refine HH.out.mono ?_; rintro e w' ⟨rfl, rfl⟩)
      go_roundw
      case rel => exact ⟨j + 1, by omega, by omega, by first | rfl | go_num, by first | rfl | trivial⟩
      case measure => simp [intOf]; omega
    · obtain rfl : j = u := by omega
      have HH := Lib.hid (rhas106 HV.out.2.1 hc j false (by have := HV.out.2.1.ok.stop; rwa [HV.out.2.2.1] at this))
      go_wp2_with (go_at_call 106; refine HH.out.mono ?_; rintro e w' ⟨rfl, rfl⟩)
      go_ret
      exact ⟨rfl, rfl⟩
/-- What a call leaves of a log of the document: it may turn the log's block and its list's, and no others that were there. -/
def RefTo (B : Nat) (w : World) (R : Nat) (v : Value) (r : Value) (c : Nat) (s : Ls) (e : Ending) (w' : World) : Prop :=
  e = .returned r ∧ ∃ v' l', RefAt B w' R v' l' c s ∧ Upd (fun z => z = R ∨ v.ownBlock = some z) w w' ∧ (∀ g, v'.ownBlock = some g → v.ownBlock = some g ∨ w.heap.size ≤ g)
theorem RefTo.same (h : RefAt B w R v l c s) (r : Value) : RefTo B w R v r (c + 1) s (.returned r) w := ⟨rfl, v, l, h.mono (Nat.le_refl _) (Nat.le_succ _), Upd.refl _ _, fun _ hg => .inl hg⟩
end
end Go.Proofs.Ytjkgbofeogaeoaa
