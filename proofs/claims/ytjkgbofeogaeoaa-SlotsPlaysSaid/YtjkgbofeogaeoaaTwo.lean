/- Two logs beside each other; strings of one byte. -/
import Derived.Test.YtjkgbofeogaeoaaCountS
namespace Go.Proofs.Ytjkgbofeogaeoaa
open Go.RowKit

/-- Two logs whose memory is apart. -/
structure TL (w0 : World) (D b : Nat) (s : Ls) (c D2 b2 : Nat) (s2 : Ls) (c2 : Nat) (w : World) : Prop where
  x : LG (fun z => z = D2 ∨ z = b2) w0 D b s c w
  y : LG (fun z => z = D ∨ z = b) w0 D2 b2 s2 c2 w
section
variable {w0 w w' : World} {D b c D2 b2 c2 c' : Nat} {s s2 s' : Ls}
theorem TL.below (h : TL w0 D b s c D2 b2 s2 c2 w) (hb : Below w.heap.size w w') : TL w0 D b s c D2 b2 s2 c2 w' := ⟨h.x.below hb, h.y.below hb⟩
theorem TL.goX (h : TL w0 D b s c D2 b2 s2 c2 w) (hx : LG (fun z => z = D2 ∨ z = b2) w0 D b s' c' w') (hU : Upd (Off (fun z => z = D2 ∨ z = b2) w0) w w') : TL w0 D b s' c' D2 b2 s2 c2 w' := ⟨hx, h.y.other hU (.inl rfl) (.inr rfl)⟩
theorem TL.goY (h : TL w0 D b s c D2 b2 s2 c2 w) (hy : LG (fun z => z = D ∨ z = b) w0 D2 b2 s' c' w') (hU : Upd (Off (fun z => z = D ∨ z = b) w0) w w') : TL w0 D b s c D2 b2 s' c' w' := ⟨h.x.other hU (.inl rfl) (.inr rfl), hy⟩
/-- A log that a call has made joins another one. -/
theorem TL.of {G : Nat → Prop} (h : LG G w0 D b s c w) (h2 : LG (fun _ => False) w D2 b2 s2 c2 w') : TL w0 D b s c D2 b2 s2 c2 w' :=
  ⟨(h.less (G' := fun _ => False) (fun _ f => f.elim)).more h2.out (fun z hz => .inr (by have := h2.lo; have := h2.lt; rcases hz with e | e <;> subst e <;> constructor <;> omega)),
   h2.since h.out (fun z hz => .inl (by have := h.lt; rcases hz with e | e <;> subst e <;> omega))⟩
end
def bs1 (x : Nat) : ByteArray := ⟨#[UInt8.ofNat x]⟩
theorem bs1_size (x : Nat) : (bs1 x).size = 1 := rfl
theorem str1 (w : World) (x : Nat) (hx : x < 256) : (convert 42 9 (.slice (some ⟨w.heap.size, 0, none⟩) 1 1)).run Try.prog (w.alloc (.cells #[.int .u8 (x : Int)] 5)) = .ok (.string (bs1 x)) (w.alloc (.cells #[.int .u8 (x : Int)] 5)) := by
  refine run_convert_bytes_back (P := Try.prog) (w.alloc (.cells #[.int .u8 (x : Int)] 5)) 42 9 5 ⟨w.heap.size, 0, none⟩ 1 [UInt8.ofNat x] Try.underlying42 Try.underlying5 Try.underlying9 (fun j hj => ?_)
  have hj0 : j = 0 := by simp at hj; omega
  subst hj0
  rw [Addr.add_lit, cell_blk (blk_new _ _)]
  have : (UInt8.ofNat x).toNat = x := by simp [UInt8.toNat_ofNat']; omega
  simp [this]
theorem bs1_inj {x y : Nat} (hx : x < 256) (hy : y < 256) (h : bs1 x = bs1 y) : x = y := by
  have h1 : UInt8.ofNat x = UInt8.ofNat y := by
    have := congrArg (fun b => b.data.toList) h
    simpa [bs1] using this
  have h2 := congrArg UInt8.toNat h1
  simp [UInt8.toNat_ofNat'] at h2
  omega
theorem upto_le {s : Ls} (hk : Lk s) (u : Int) (hb : s.base ≤ u) (hs : (s.f u).isSome = false) : s.upto ≤ u := by
  rcases Classical.em (u < s.upto) with e | e
  · rw [hk.run u hb e] at hs; cases hs
  · omega
end Go.Proofs.Ytjkgbofeogaeoaa
