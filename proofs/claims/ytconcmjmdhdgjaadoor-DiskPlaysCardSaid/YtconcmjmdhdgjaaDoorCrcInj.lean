/- The checksum tells bytes apart that differ in one place. Plain numbers. -/
import Derived.Test.YtconcmjmdhdgjaaDoorCrc
namespace Go.Proofs.YtconcmjmdhdgjaaDoor

theorem xor_cancel {a b c : Nat} (h : a ^^^ c = b ^^^ c) : a = b := by
  have h2 : (a ^^^ c) ^^^ c = (b ^^^ c) ^^^ c := by rw [h]
  simpa [Nat.xor_assoc] using h2
theorem four_top (i j : Nat) (hi : i < 16) (hj : j < 16) (h : four i / 268435456 = four j / 268435456) : i = j := by
  have : ∀ i j : Fin 16, four i.val / 268435456 = four j.val / 268435456 → i = j := by decide
  have := this ⟨i, hi⟩ ⟨j, hj⟩ h
  exact congrArg Fin.val this
theorem xor_top (a b : Nat) (ha : a < 268435456) : (a ^^^ b) / 268435456 = b / 268435456 := by
  have h1 : (a ^^^ b) >>> 28 = (a >>> 28) ^^^ (b >>> 28) := Nat.shiftRight_xor_distrib
  rw [Nat.shiftRight_eq_div_pow, Nat.shiftRight_eq_div_pow, Nat.shiftRight_eq_div_pow] at h1
  have h2 : a / 2 ^ 28 = 0 := Nat.div_eq_of_lt ha
  rw [h2, Nat.zero_xor] at h1
  exact h1
theorem fourStep_inj {r s : Nat} (hr : r < 4294967296) (hs : s < 4294967296) (h : fourStep r = fourStep s) : r = s := by
  unfold fourStep at h
  have t1 := xor_top (r / 16) (four (r % 16)) (by omega)
  have t2 := xor_top (s / 16) (four (s % 16)) (by omega)
  have e : r % 16 = s % 16 := four_top _ _ (Nat.mod_lt _ (by omega)) (Nat.mod_lt _ (by omega)) (by rw [← t1, ← t2, h])
  rw [e] at h
  have := xor_cancel h
  omega
theorem eightV_inj {r s : Nat} (hr : r < 4294967296) (hs : s < 4294967296) (h : eightV r = eightV s) : r = s :=
  fourStep_inj hr hs (fourStep_inj (fourStep_lt hr) (fourStep_lt hs) h)
theorem regV_append (r : Nat) (l m : List UInt8) : regV r (l ++ m) = regV (regV r l) m := by unfold regV; rw [List.foldl_append]
theorem regV_inj (l : List UInt8) : ∀ {r s : Nat}, r < 4294967296 → s < 4294967296 → regV r l = regV s l → r = s := by
  induction l with
  | nil => intro r s _ _ h; exact h
  | cons x l ih =>
    intro r s hr hs h
    have hx : x.toNat < 4294967296 := by have := x.toNat_lt; omega
    have h1 := ih (eightV_lt (xor_lt32 hr hx)) (eightV_lt (xor_lt32 hs hx)) h
    exact xor_cancel (eightV_inj (xor_lt32 hr hx) (xor_lt32 hs hx) h1)
/-- One other byte: another checksum. -/
theorem crc_split (l m : List UInt8) (x y : UInt8) (h : x ≠ y) : crcV (l ++ x :: m) ≠ crcV (l ++ y :: m) := by
  intro e
  have hr : regV 4294967295 l < 4294967296 := regV_lt (by omega) l
  have hx : x.toNat < 4294967296 := by have := x.toNat_lt; omega
  have hy : y.toNat < 4294967296 := by have := y.toNat_lt; omega
  have b1 : regV 4294967295 (l ++ x :: m) < 4294967296 := regV_lt (by omega) _
  have b2 : regV 4294967295 (l ++ y :: m) < 4294967296 := regV_lt (by omega) _
  unfold crcV at e
  have e2 : regV 4294967295 (l ++ x :: m) = regV 4294967295 (l ++ y :: m) := by omega
  rw [regV_append, regV_append] at e2
  have e3 := regV_inj m (eightV_lt (xor_lt32 hr hx)) (eightV_lt (xor_lt32 hr hy)) e2
  have e4 := eightV_inj (xor_lt32 hr hx) (xor_lt32 hr hy) e3
  rw [Nat.xor_comm, Nat.xor_comm (regV 4294967295 l)] at e4
  exact h (UInt8.toNat_inj.1 (xor_cancel e4))
theorem crc_set (l : List UInt8) (i : Nat) (hi : i < l.length) (b : UInt8) (h : b ≠ l[i]) : crcV (l.set i b) ≠ crcV l := by
  have e1 : l = l.take i ++ l[i] :: l.drop (i + 1) := by simp
  have e2 : l.set i b = l.take i ++ b :: l.drop (i + 1) := List.set_eq_take_append_cons_drop.trans (if_pos hi)
  rw [e2]
  intro e
  have : crcV l = crcV (l.take i ++ l[i] :: l.drop (i + 1)) := congrArg crcV e1
  rw [this] at e
  exact crc_split _ _ _ _ h e
end Go.Proofs.YtconcmjmdhdgjaaDoor
