/- Slices of bytes that a call makes: what append, Clone and Concat return. -/
import Derived.Test.YtconcmjmdhdgjaaDoorCrc
import Derived.Maps.AppendAt
import Derived.Lib.LazyBuf
namespace Go.Proofs.YtconcmjmdhdgjaaDoor
open Go.RowKit

def bv (b : UInt8) : Value := .int .u8 ((b.toNat : Nat) : Int)
/-- A slice of bytes in memory that is made from block B on. -/
def OwnB (w : World) (B : Nat) (v : Value) (l : List UInt8) : Prop := w.ownsRow B 5 1 v l.length (l.map bv)

theorem Tryd.info5 : (Tryd.prog.info? 5).map (fun i => (i.zero, i.size, i.bytes)) = some (some (.int .u8 0), 1, 1) := by kernel_rfl
theorem Tryd.info22 : (Tryd.prog.info? 22).map (fun i => (i.zero, i.size, i.bytes)) = some (some (.slice none 0 0), 1, 24) := by kernel_rfl

theorem OwnB.nil (w : World) (B : Nat) : OwnB w B (.slice none 0 0) [] := World.ownsRow_nil _ _ _ _
theorem OwnB.shape {w : World} {B : Nat} {v : Value} {l : List UInt8} (h : OwnB w B v l) :
    (v = .slice none 0 0 ∧ l = []) ∨ ∃ g cap, v = .slice (some ⟨g, 0, none⟩) l.length cap ∧ B ≤ g ∧ g < w.heap.size ∧ l.length ≤ cap ∧ cap ≤ maxLen := by
  rcases h.2 with ⟨h1, h2⟩ | ⟨g, cap, cur, hv, hb, hg, hn, hm, _⟩
  · exact .inl ⟨h1, List.eq_nil_of_length_eq_zero h2⟩
  · exact .inr ⟨g, cap, hv, hb, lt_of_blk hg, hn, hm⟩
theorem OwnB.below {w w' : World} {B : Nat} {v : Value} {l : List UInt8} (h : OwnB w B v l) (hb : Below w.heap.size w w') : OwnB w' B v l := by
  refine ⟨h.1, ?_⟩
  rcases h.2 with hn | ⟨g, cap, cur, hv, hB, hg, r⟩
  · exact .inl hn
  · exact .inr ⟨g, cap, cur, hv, hB, blk_below' hg hb, r⟩
theorem OwnB.mono {w : World} {B B' : Nat} {v : Value} {l : List UInt8} (h : OwnB w B v l) (hB : B' ≤ B) : OwnB w B' v l := by
  refine ⟨h.1, ?_⟩
  rcases h.2 with hn | ⟨g, cap, cur, hv, hb, r⟩
  · exact .inl hn
  · exact .inr ⟨g, cap, cur, hv, Nat.le_trans hB hb, r⟩
theorem map_getD (l : List UInt8) (i : Nat) (hi : i < l.length) : (l.map bv)[i]? = some (bv (l[i]?.getD 0)) := by
  simp [List.getElem?_eq_getElem hi]
theorem OwnB.bytes {w : World} {B g cap : Nat} {l : List UInt8} (h : OwnB w B (.slice (some ⟨g, 0, none⟩) l.length cap) l) : BytesAt w (some ⟨g, 0, none⟩) l := by
  rcases h.2 with ⟨h1, _⟩ | ⟨g', cap', cur, hv, hb, hg, hn, hm, hs, ht⟩
  · cases h1
  · cases hv
    refine .inr ⟨g, 0, rfl, lt_of_blk hg, fun i hi => ?_⟩
    rw [Nat.zero_add, cell_blk hg]
    have h1 : (cur.toList.take (l.length * 1))[i]? = some (bv (l[i]?.getD 0)) := by rw [ht]; exact map_getD l i hi
    rw [List.getElem?_take, if_pos (by omega)] at h1
    have h2 : cur[i]? = some (bv (l[i]?.getD 0)) := by simpa using h1
    exact h2
theorem OwnB.bytes' {w : World} {B n cap : Nat} {a : Option Addr} {l : List UInt8} (h : OwnB w B (.slice a n cap) l) : BytesAt w a l := by
  rcases h.shape with ⟨_, rfl⟩ | ⟨g, cap', hv, _⟩
  · exact .inl rfl
  · cases hv; exact h.bytes
theorem bytes_cells {w : World} {a : Addr} {l : List UInt8} (h : BytesAt w (some a) l) : ∀ j u, (l.map bv)[j]? = some u → w.cell? (a.add j) = some u := by
  intro j u hu
  have hj : j < l.length := by
    have := (List.getElem?_eq_some_iff.1 hu).1
    simpa using this
  rw [map_getD l j hj] at hu
  cases hu
  rcases h with rfl | ⟨b, off, h1, _, h3⟩
  · simp at hj
  · cases h1
    rw [Addr.add_lit]
    exact h3 j hj
theorem bv_one (l : List UInt8) : ∀ u ∈ l.map bv, u.oneCell' = true := by
  intro u hu
  obtain ⟨b, _, rfl⟩ := List.mem_map.1 hu
  rfl

/-- A slice of the call's own while a cell of another block is written. -/
theorem own_other {w : World} {B : Nat} {v : Value} {l : List UInt8} (h : OwnB w B v l) (a : Addr) (u : Value) (ha : v.ownBlock = some a.block → False) : OwnB (w.setCell a u) B v l := by
  refine ⟨h.1, ?_⟩
  rcases h.2 with hn | ⟨g, cap, cur, hv, hB, hg, r⟩
  · exact .inl hn
  · exact .inr ⟨g, cap, cur, hv, hB, blk_other hg a u (fun e => ha (by rw [hv]; simp [Value.ownBlock, e])), r⟩
theorem own_ge {w : World} {B b : Nat} {v : Value} {l : List UInt8} (h : OwnB w B v l) (hb : v.ownBlock = some b) : B ≤ b ∧ b < w.heap.size := World.ownsRow.lt h b hb

/-- What append makes of bytes of the call's own and of further ones. -/
theorem append_bytes (w : World) (B : Nat) (ty : TypeId) (v : Value) (l m : List UInt8) (ad : Addr) (c : Nat) (hown : OwnB w B v l) (hm : BytesAt w (some ad) m) (hlen : l.length + m.length ≤ 140737488355328) (hB : B ≤ w.heap.size) :
    ∃ v' w', (Builtin.append_ #[22, 22] ty #[v, .slice (some ad) m.length c]).run Tryd.prog w = .ok v' w' ∧ OwnB w' B v' (l ++ m) ∧ w.grownBy w' v.ownBlock ∧ (v' = .slice none 0 0 ↔ v = .slice none 0 0 ∧ m.length = 0) ∧ (v'.ownBlock = v.ownBlock ∨ v'.ownBlock = some w.heap.size) := by
  obtain ⟨i0, hi, hz0, hz1, hz2⟩ := info_parts Tryd.info5
  obtain ⟨v', w', h1, h2, h3⟩ := run_append_own_at (P := Tryd.prog) w B 22 ty 5 i0 (.int .u8 0) 1 1 Tryd.underlying22 hi hz0 hz1 hz2 rfl (by decide) v l.length (l.map bv) hown ad m.length c (m.map bv) (by simp) (bytes_cells hm) (bv_one m)
    (by unfold maxLen; omega) (by omega) hB
  exact ⟨v', w', h1, by unfold OwnB; rw [List.length_append, List.map_append]; exact h2, h3⟩

/-- The same, as a step of a walk. -/
theorem wpList_append_bytes {w : World} {ops : Array Oper} {rest : List Oper} {o : Oper} {a : Act} {Q : Exit → Act → World → Prop} (hgd : o.guard = none) (s x : Operand)
    (ho : o.op = .call { callee := .builtin .append, args := #[s, x], argTypes := #[22, 22] })
    (B : Nat) (v : Value) (l m : List UInt8) (hs : a.eval s = v) (hown : OwnB w B v l) (ad : Addr) (n c : Nat) (hx : a.eval x = .slice (some ad) n c) (hn : m.length = n) (hm : BytesAt w (some ad) m)
    (hlen : l.length + m.length ≤ 140737488355328) (hB : B ≤ w.heap.size)
    (h : ∀ v' w', OwnB w' B v' (l ++ m) → w.grownBy w' v.ownBlock → (v' = .slice none 0 0 ↔ v = .slice none 0 0 ∧ m.length = 0) → (v'.ownBlock = v.ownBlock ∨ v'.ownBlock = some w.heap.size) → wpList Tryd.prog ops Q rest (a.put o.dst v') w') :
    wpList Tryd.prog ops Q (o :: rest) a w := by
  refine wpList_plain hgd fun K hK => ?_
  subst hn
  obtain ⟨v', w', hr, h2, h3, h4, h5⟩ := append_bytes w B o.type v l m ad c hown hm hlen hB
  unfold Oper.wp execOp
  simp only [ho, resolve, invoke, builtin, Sem.run_bind, Sem.run_pure, Result.andThen_ok, List.map_toArray, List.map_cons, List.map_nil, hs, hx, hr]
  exact hK _ _ (h v' w' h2 h3 h4 h5)

/-- What Clone makes of bytes. -/
def ClonedTo (w : World) (l : List UInt8) (e : Ending) (w' : World) : Prop :=
  ∃ g cap, e = .returned (.slice (some ⟨g, 0, none⟩) l.length cap) ∧ OwnB w' w.heap.size (.slice (some ⟨g, 0, none⟩) l.length cap) l ∧ Below w.heap.size w w'

theorem own_lit (w : World) (B : Nat) (hB : B ≤ w.heap.size) : OwnB (w.alloc (.cells #[] 5)) B (.slice (some ⟨w.heap.size, 0, none⟩) 0 0) [] :=
  ⟨rfl, .inr ⟨w.heap.size, 0, #[], rfl, hB, blk_new _ _, Nat.le_refl _, by unfold maxLen; omega, rfl, rfl⟩⟩

/-- A slice of the call's own that isn't nil, opened. -/
theorem OwnB.some {w : World} {B : Nat} {v : Value} {l : List UInt8} (h : OwnB w B v l) (hv : v ≠ .slice none 0 0) : ∃ g cap, v = .slice (some ⟨g, 0, none⟩) l.length cap ∧ B ≤ g ∧ g < w.heap.size ∧ l.length ≤ cap ∧ cap ≤ maxLen := by
  rcases h.shape with ⟨h1, _⟩ | h
  · exact absurd h1 hv
  · exact h

set_option maxHeartbeats 1000000 in
theorem clone_any (a : Addr) (l : List UInt8) (cap : Nat) (w : World) (hm : l.length ≤ 140737488355328) (h : BytesAt w (some a) l) :
    Calls Tryd.prog 68 #[.slice (some a) l.length cap] w (ClonedTo w l) := by
  have hnil := fun w => run_eql_slice_nil (P := Tryd.prog) w 22 5 (some a) l.length cap Tryd.underlying22
  have HB := Lib.hid (h.below ((Below.refl _ w).alloc (Nat.le_refl _) (.cells #[] 5)))
  clear h
  go_enter Tryd.func68, Tryd.ntmps68
  go_wp2_with (at_builtin; refine wpList_append_bytes rfl _ _ rfl w.heap.size (.slice (some ⟨w.heap.size, 0, none⟩) 0 0) [] l rfl (own_lit w _ (Nat.le_refl _)) _ _ _ rfl rfl HB.out (by simpa using hm) (by simp) ?_; intro v' w' hown hg hnl hbl)
  go_ret
  rw [List.nil_append] at hown
  obtain ⟨g, cap', hv, _⟩ := hown.some (by intro hv; have := hnl.1 hv; simp at this)
  refine ⟨g, cap', by rw [← hv]; rfl, by rw [← hv]; exact hown, ?_⟩
  exact ((Below.refl _ w).alloc (Nat.le_refl _) _).grown hg (by simp) (fun k hk => by simp [Value.ownBlock] at hk; omega)
end Go.Proofs.YtconcmjmdhdgjaaDoor
