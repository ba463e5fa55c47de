/- Moves that came in, and the value of a move. -/
import Derived.Test.YtjkgbofeogaeoaaNums
import Derived.Deep.Slices
import Derived.Deep.Strs
namespace Go.Proofs.Ytjkgbofeogaeoaa
open Go.RowKit Go.Shelf Go.ChangeShapes Go.WideShapes Go.ChangeAt

/-- A move: what is done, a slot, and a value's number. -/
structure Mv where
  kind : Nat
  slot : Nat
  val : Nat
/-- A list of moves that lies in memory. -/
structure MovesAt (w : World) (A : Option Addr) (n C : Nat) (l : List Mv) : Prop where
  len : l.length = n
  le : n ≤ C
  max : C ≤ maxLen
  small : ∀ (j : Nat) (m : Mv), l[j]? = some m → m.kind ≤ 255 ∧ m.slot ≤ 255 ∧ m.val ≤ 255
  cells : ∀ (j : Nat) (m : Mv), l[j]? = some m → ∃ b off, A = some ⟨b, off, none⟩ ∧ w.cell? ⟨b, off + j * 3, none⟩ = some (.int .u8 (m.kind : Int)) ∧ w.cell? ⟨b, off + j * 3 + 1, none⟩ = some (.int .u8 (m.slot : Int)) ∧ w.cell? ⟨b, off + j * 3 + 2, none⟩ = some (.int .u8 (m.val : Int))
theorem MovesAt.below {w w' : World} {A : Option Addr} {n C : Nat} {l : List Mv} (h : MovesAt w A n C l) (hb : Below w.heap.size w w') : MovesAt w' A n C l :=
  ⟨h.len, h.le, h.max, h.small, fun j m hm => by
    obtain ⟨b, off, h1, h2, h3, h4⟩ := h.cells j m hm
    exact ⟨b, off, h1, (hb.cell (p := ⟨b, _, none⟩) (World.block_lt_of_cell? _ _ h2)).trans h2, (hb.cell (p := ⟨b, _, none⟩) (World.block_lt_of_cell? _ _ h3)).trans h3, (hb.cell (p := ⟨b, _, none⟩) (World.block_lt_of_cell? _ _ h4)).trans h4⟩⟩
theorem MovesAt.take {w : World} {A : Option Addr} {n C : Nat} {l : List Mv} (h : MovesAt w A n C l) (m : Nat) (hm : m ≤ n) : MovesAt w A m C (l.take m) := by
  have hg : ∀ (j : Nat) x, (l.take m)[j]? = some x → l[j]? = some x := fun j x hx => by
    rw [List.getElem?_take] at hx
    split at hx
    · exact hx
    · cases hx
  exact ⟨by rw [List.length_take, h.len]; omega, Nat.le_trans hm h.le, h.max, fun j x hx => h.small j x (hg j x hx), fun j x hx => h.cells j x (hg j x hx)⟩
def IsMoves (w : World) (a : Option Addr) (n cap : Nat) : Prop := ∃ l, MovesAt w a n cap l
theorem spot_none {b off : Nat} {spot} {w : World} {v : Value} (h : w.cell? ⟨b, off, spot⟩ = some v) : spot = none := by
  cases spot with
  | none => rfl
  | some s =>
    unfold World.cell? at h
    split at h <;> simp at h
theorem move_of_trod {H : Type} {enc : TypeId × Value → H} {W : World} {base : Nat} {held : Bool} {fuel : Nat} {cs : List Value} {x : DataW H × List MemPlace}
    (h : DataW.trod enc Try.prog W base (fun _ => true) held fuel 37 cs = some x) : ∃ m : Mv, cs = [.int .u8 (m.kind : Int), .int .u8 (m.slot : Int), .int .u8 (m.val : Int)] ∧ m.kind ≤ 255 ∧ m.slot ≤ 255 ∧ m.val ≤ 255 := by
  obtain ⟨xs, k, _, rfl, hl, hlen, hf⟩ := DataW.trod_struct Try.underlying37 h
  have hl3 : cs.length = 3 := by rw [hl]; kernel_rfl
  obtain ⟨u0, u1, u2, rfl⟩ := three cs hl3
  have hxl : xs.length = 3 := hlen
  obtain ⟨y0, y1, y2, rfl⟩ := three xs hxl
  have h0 := hf 0 _ rfl
  have h1 := hf 1 _ rfl
  have h2 := hf 2 _ rfl
  have c5 : Try.prog.cellsOf 5 = 1 := by kernel_rfl
  obtain ⟨a, e0, -, w0⟩ := DataW.trod_int Try.underlying5 h0
  obtain ⟨b, e1, -, w1⟩ := DataW.trod_int Try.underlying5 h1
  obtain ⟨c, e2, -, w2⟩ := DataW.trod_int Try.underlying5 h2
  change List.take (Try.prog.cellsOf 5) _ = _ at e0
  change List.take (Try.prog.cellsOf 5) _ = _ at e1
  change List.take (Try.prog.cellsOf 5) _ = _ at e2
  rw [c5] at e0 e1 e2
  simp at e0 e1 e2
  subst e0 e1 e2
  obtain ⟨a', rfl, ha⟩ := wf_u8 w0
  obtain ⟨b', rfl, hb⟩ := wf_u8 w1
  obtain ⟨c', rfl, hc⟩ := wf_u8 w2
  exact ⟨⟨a', b', c'⟩, rfl, ha, hb, hc⟩
/-- A move that came in by value. -/
def IsMove (_ : World) (cs : Array Value) : Prop := ∃ m : Mv, cs = #[.int .u8 (m.kind : Int), .int .u8 (m.slot : Int), .int .u8 (m.val : Int)] ∧ m.kind ≤ 255 ∧ m.slot ≤ 255 ∧ m.val ≤ 255
theorem isMove_of_trod {H : Type} {enc : TypeId × Value → H} {W : World} {base : Nat} {held : Bool} {fuel : Nat} {cs : Array Value} {x : DataW H × List MemPlace}
    (h : DataW.trod enc Try.prog W base (fun _ => true) held fuel 37 (Value.cells (.agg cs)).toList = some x) : IsMove W cs := by
  obtain ⟨m, h1, h2⟩ := move_of_trod (cs := cs.toList) h
  exact ⟨m, by rw [← Array.toArray_toList (xs := cs), h1], h2⟩
theorem isMoves_of_trod {H : Type} {enc : TypeId × Value → H} {W : World} {base : Nat} {held : Bool} {fuel : Nat} {a : Option Addr} {n cap : Nat} {x : DataW H × List MemPlace}
    (h : DataW.trod enc Try.prog W base (fun _ => true) held fuel 34 (Value.cells (.slice a n cap)).toList = some x) : IsMoves W a n cap := by
  rcases Deep.open_slice Try.underlying34 h with ⟨hcs, _⟩ | ⟨ad, l, c, m, k, D, Pl, hcs, hb, hl, hm, hmm, _, hi⟩
  · simp [Value.cells] at hcs
    obtain ⟨rfl, rfl, rfl⟩ := hcs
    exact ⟨[], rfl, Nat.le_refl _, Nat.zero_le _, fun j m h => by simp at h, fun j m h => by simp at h⟩
  · simp [Value.cells] at hcs
    obtain ⟨rfl, rfl, rfl⟩ := hcs
    simp only [if_true] at hmm
    subst hmm
    have hc37 : Try.prog.cellsOf 37 = 3 := by kernel_rfl
    simp only [hc37] at hi
    obtain ⟨b, off, spot⟩ := ad
    by_cases h0 : n = 0
    · exact ⟨[], h0.symm, hl, hm, fun j m h => by simp at h, fun j m h => by simp at h⟩
    have hs : spot = none := by
      obtain ⟨cs', e1, e2⟩ := hi 0 (by omega)
      obtain ⟨-, e4, e5⟩ := World.cells?_some e1
      obtain ⟨s, rfl, -⟩ := move_of_trod e2
      have g0 := e5 0 (by decide)
      rw [Nat.zero_mul] at g0
      exact spot_none (b := b) (off := off) (w := W) (v := .int .u8 (s.kind : Int)) (by unfold Addr.add at g0; simpa using g0)
    subst hs
    have each : ∀ r, r < n → ∃ s : Mv, (s.kind ≤ 255 ∧ s.slot ≤ 255 ∧ s.val ≤ 255) ∧ W.cell? ⟨b, off + r * 3, none⟩ = some (.int .u8 (s.kind : Int)) ∧ W.cell? ⟨b, off + r * 3 + 1, none⟩ = some (.int .u8 (s.slot : Int)) ∧ W.cell? ⟨b, off + r * 3 + 2, none⟩ = some (.int .u8 (s.val : Int)) := by
      intro r hr
      obtain ⟨cs', e1, e2⟩ := hi r (by omega)
      obtain ⟨-, e4, e5⟩ := World.cells?_some e1
      obtain ⟨s, rfl, f1, f2, f3⟩ := move_of_trod e2
      have g0 := e5 0 (by decide)
      have g1 := e5 1 (by decide)
      have g2 := e5 2 (by decide)
      rw [Addr.add_lit, Addr.add_lit] at g0 g1 g2
      simp at g0 g1 g2
      exact ⟨s, ⟨f1, f2, f3⟩, g0, g1, g2⟩
    have hch : ∀ k, k ≤ n → ∃ ss : List Mv, ss.length = k ∧ ∀ r s, ss[r]? = some s → (s.kind ≤ 255 ∧ s.slot ≤ 255 ∧ s.val ≤ 255) ∧ W.cell? ⟨b, off + r * 3, none⟩ = some (.int .u8 (s.kind : Int)) ∧ W.cell? ⟨b, off + r * 3 + 1, none⟩ = some (.int .u8 (s.slot : Int)) ∧ W.cell? ⟨b, off + r * 3 + 2, none⟩ = some (.int .u8 (s.val : Int)) := by
      intro k
      induction k with
      | zero => exact fun _ => ⟨[], rfl, fun r s hr => by simp at hr⟩
      | succ k ih =>
        intro hk
        obtain ⟨ss, e1, e2⟩ := ih (by omega)
        obtain ⟨t, f⟩ := each k (by omega)
        refine ⟨ss ++ [t], by simp [e1], fun r s hr => ?_⟩
        rcases Nat.lt_or_ge r k with h | h
        · rw [List.getElem?_append_left (by omega)] at hr; exact e2 r s hr
        · rw [List.getElem?_append_right (by omega), e1] at hr
          have : r - k = 0 := by
            have := (List.getElem?_eq_some_iff.1 hr).1
            simp at this; omega
          rw [this] at hr
          obtain rfl : r = k := by omega
          cases hr
          exact f
    obtain ⟨ss, e1, e2⟩ := hch n (Nat.le_refl _)
    exact ⟨ss, e1, hl, hm, fun j m h => (e2 j m h).1, fun j m h => by
      obtain ⟨-, g0, g1, g2⟩ := e2 j m h
      exact ⟨b, off, rfl, g0, g1, g2⟩⟩
/-- The value of a move. -/
def mvb (v : Nat) : ByteArray := ⟨#[UInt8.ofNat (97 + v % 3), UInt8.ofNat (48 + v % 2)]⟩
theorem mvb_size (v : Nat) : (mvb v).size = 2 := rfl
set_option maxRecDepth 20000 in
theorem mval33 (k s v : Nat) (w : World) (hv : v ≤ 255) : Calls Try.prog 33 #[.agg #[.int .u8 (k : Int), .int .u8 (s : Int), .int .u8 (v : Int)]] w fun e w' => e = .returned (.string (mvb v)) ∧ Below w.heap.size w w' := by
  have e1 : ((97 + v % 3 : Nat) : Int) = 97 + (v : Int) % 3 := by omega
  have e2 : ((48 + v % 2 : Nat) : Int) = 48 + (v : Int) % 2 := by omega
  have kc := str2 (w.alloc (.cells #[.int .u8 (k : Int), .int .u8 (s : Int), .int .u8 (v : Int)] 37)) (97 + v % 3) (48 + v % 2) (by omega) (by omega)
  rw [e1, e2, World.size_alloc, show (⟨#[UInt8.ofNat (97 + v % 3), UInt8.ofNat (48 + v % 2)]⟩ : ByteArray) = mvb v from rfl] at kc
  clear e1 e2
  go_enter Try.func33, Try.ntmps33
  go_wp2
  go_ret
  exact ⟨rfl, by go_grown⟩
end Go.Proofs.Ytjkgbofeogaeoaa
