/- The contract of the closure of disk's contents: an iterator over the contents of a log's records. -/
import Derived.Test.YtconcmjmdhdgjaaDoorDisk3
namespace Go.Proofs.YtconcmjmdhdgjaaDoor
open Go.RowKit
attribute [local go_sem] Oper.semAt_some

/-- From block M on, blocks of bytes and of records are as they were. -/
def KeepsK (M : Nat) (W W' : World) : Prop := ∀ (b : Nat) (cur : Array Value) (t : TypeId), M ≤ b → W.heap[b]? = some (.cells cur t) → (t = 5 ∨ t = 31) → W'.heap[b]? = some (.cells cur t)
theorem KeepsK.refl (M : Nat) (W : World) : KeepsK M W W := fun _ _ _ _ h _ => h
theorem KeepsK.trans {M : Nat} {X Y Z : World} (h : KeepsK M X Y) (k : KeepsK M Y Z) : KeepsK M X Z := fun b cur t hb h1 ht => k b cur t hb (h b cur t hb h1 ht) ht
theorem KeepsK.of_below {M : Nat} {W W' : World} (h : Below W.heap.size W W') : KeepsK M W W' := fun _ _ _ _ h1 _ => blk_below' h1 h
theorem OwnB.keeps {M B : Nat} {W W' : World} {v : Value} {l : List UInt8} (h : OwnB W B v l) (hk : KeepsK M W W') (hM : M ≤ B) : OwnB W' B v l := by
  refine ⟨h.1, ?_⟩
  rcases h.2 with hn | ⟨g, cap, cur, hv, hB, hg, r⟩
  · exact .inl hn
  · exact .inr ⟨g, cap, cur, hv, hB, hk g cur 5 (by omega) hg (.inl rfl), r⟩

/-- A content that is handed on: the slice, its bytes, and the world in which it was. -/
structure Itm where
  v : Value
  c : List UInt8
  at_ : World
def itEnc (x : Itm) : Array Value := #[x.v]
/-- A list of records in memory, whose contents are these. -/
def RecsK (W : World) (B : Nat) (A : Option Addr) (l : List UInt8) (n : Nat) : Prop :=
  ∀ i, i < n → ∃ (g0 : Nat) (cur : Array Value) (g gc : Nat), A = some ⟨g0, 0, none⟩ ∧ B ≤ g0 ∧ W.heap[g0]? = some (.cells cur 31) ∧ cur[i * 2]? = some (.int .i64 ((pos l i : Nat) : Int)) ∧ cur[i * 2 + 1]? = some (.slice (some ⟨g, 0, none⟩) (be4 l (pos l i)) gc) ∧ OwnB W B (.slice (some ⟨g, 0, none⟩) (be4 l (pos l i)) gc) (cont l (pos l i))
theorem RecsK.keeps {M B n : Nat} {W W' : World} {A : Option Addr} {l : List UInt8} (h : RecsK W B A l n) (hk : KeepsK M W W') (hM : M ≤ B) : RecsK W' B A l n := by
  intro i hi
  obtain ⟨g0, cur, g, gc, e1, e2, e3, e4, e5, e6⟩ := h i hi
  exact ⟨g0, cur, g, gc, e1, e2, hk g0 cur 31 (by omega) e3 (.inr rfl), e4, e5, e6.keeps hk hM⟩
theorem RecList.recsK {W : World} {B n C : Nat} {l : List UInt8} {A : Option Addr} {xs : List Rec} (h : RecList W B l (.slice A n C) xs) (hn : xs.length = n) : RecsK W B A l n := by
  intro i hi
  obtain ⟨x, h1, h2, h3⟩ := h.2 i (by omega)
  obtain ⟨c1, c2⟩ := flat_get l xs i x h1
  rcases h.1.2 with ⟨hv, h0⟩ | ⟨g, cap', cur, hv, hB, hg, hn', _, hs, ht⟩
  · omega
  · cases hv
    rw [← ht, List.getElem?_take, if_pos (by omega)] at c1 c2
    rw [Nat.mul_comm] at c1 c2
    refine ⟨g, cur, x.g, x.cap, rfl, hB, hg, ?_, ?_, ?_⟩
    · rw [← h2]; simpa using c1
    · have e : recSlice l x = .slice (some ⟨x.g, 0, none⟩) (be4 l (pos l i)) x.cap := by unfold recSlice; rw [h2]
      rw [← e]; simpa using c2
    · have e : recSlice l x = .slice (some ⟨x.g, 0, none⟩) (be4 l (pos l i)) x.cap := by unfold recSlice; rw [h2]
      rw [← e, ← h2]; exact h3

def ItOk (l : List UInt8) (M : Nat) (pre : List Itm) (x : Itm) (W : World) : Prop :=
  x.at_ = W ∧ OwnB W M x.v x.c ∧ (∃ g gc, x.v = .slice (some ⟨g, 0, none⟩) x.c.length gc) ∧ x.c = cont l (pos l pre.length) ∧ 8 * pre.length ≤ l.length
def ItEnd (l : List UInt8) (xs : List Itm) (_ : World) : Prop := Upto l xs.length ∧ nextE l ((pos l xs.length : Nat) : Int) ≠ 0 ∧ ∀ i x, xs[i]? = some x → x.c = cont l (pos l i)
def ItStop (xs : List Itm) (_ : World) : Prop := 0 < xs.length

set_option maxHeartbeats 8000000 in
theorem contents_it (l : List UInt8) (a : Option Addr) (n cap bx L lp : Nat) (_sf : Value) (J Jx : List Itm → World → Prop) (W : World) (hn : l.length = n) (hm : n ≤ 1073741824) (hcap : n ≤ cap) (hcm : cap ≤ maxLen) (hlp : lp < W.heap.size)
    (hJ : ∀ s W W', J s W → Below W.heap.size W W' → J s W') (_hJx : ∀ s W W', Jx s W → Below W.heap.size W W' → Jx s W') (hJK : ∀ s x W, J (s ++ [x]) W → KeepsK (lp + 1) x.at_ W)
    (hbx : W.cell? ⟨bx, 0, none⟩ = some (.pointer (some ⟨L, 0, none⟩))) (hL : W.cell? ⟨L, 0, none⟩ = some (.slice a n cap)) (hby : BytesAt W a l) (hf : Fours W)
    (hY : YieldsTo Tryd.prog lp itEnc (ItOk l (lp + 1)) J Jx) (h0 : J [] W) :
    Calls Tryd.prog 86 #[.func (.yield lp) #[] #[], .pointer (some ⟨bx, 0, none⟩)] W (IterEnd J Jx (ItEnd l) ItStop) := by
  have HA := Lib.hid (all_at a l n cap W hn hm hcap hcm hf hby)
  have HJ := Lib.hid h0
  have HN := Lib.hid hn
  clear hf hby h0 hn
  refine (callsIn_wide (n := 9)).1 (callsIn_of_wp Tryd.func86 rfl trivial ?_ rfl)
  simp only [Tryd.ntmps86, List.size_toArray, List.length_cons, List.length_nil, Nat.reduceAdd, Nat.reduceSub, Array.replicate_succ, Array.replicate_zero, List.push_toArray, List.append_toArray, List.nil_append, List.cons_append]
  gi_wp2_with fail
  refine ⟨trivial, (callsIn_wide.2 HA.out).mono ?_⟩
  rintro e w1 ⟨xs, v, rfl, hrl, hup, hne, hb1⟩
  obtain ⟨N, hxs⟩ : ∃ N, xs.length = N := ⟨_, rfl⟩
  obtain ⟨A, C, rfl⟩ : ∃ A C, v = .slice A N C := by
    rcases hrl.1.2 with ⟨h1, h2⟩ | ⟨g, c, cur, h1, _⟩
    · exact ⟨none, 0, by rw [h1, ← hxs, h2]⟩
    · exact ⟨_, _, by rw [h1, hxs]⟩
  have hrk := hrl.recsK hxs
  rw [hxs] at hup hne
  have hlen := len_pos l N
  have hple := pos_le hup
  rw [HN.out] at hple
  have hNm : N ≤ 1073741824 := by omega
  have H1 := Lib.hid (And.intro hrk (And.intro (hJ _ _ _ HJ.out hb1) (And.intro hup hne)))
  have hz := hb1.size
  clear hrl hup hne hb1 hrk hxs hlen hple
  gi_wp2_with fail
  gi_loopw [19] (fun i wr => ∃ pre : List Itm, i = .int .i64 (pre.length : Int) ∧ pre.length ≤ N ∧ J pre wr ∧ RecsK wr W.heap.size A l N ∧ (∀ i x, pre[i]? = some x → x.c = cont l (pos l i))) (fun i _ => N - (intOf i).toNat)
  case atStart => exact ⟨[], rfl, Nat.zero_le _, H1.out.2.1, H1.out.1, (fun i x h => by simp at h)⟩
  case round =>
    obtain ⟨pre, rfl, hk, hj, hrk, hcs⟩ := hrel
    obtain ⟨k, hkl⟩ : ∃ k, pre.length = k := ⟨_, rfl⟩
    rw [hkl] at hk ⊢
    by_cases hlt : k < N
    · obtain ⟨g0, cur, g, gc, rfl, hB0, hblk, hc0, hc1, hown⟩ := hrk k hlt
      have x0 := cell_blk hblk (k * 2)
      have x1 := cell_blk hblk (k * 2 + 1)
      rw [hc0] at x0
      rw [hc1] at x1
      obtain ⟨k', hk', hp1, hp2, _⟩ := nextE_zero (H1.out.2.2.1 k hlt)
      obtain rfl : pos l k = k' := by omega
      have hcl := cont_len l _ hp1
      have hlp8 := len_pos l k
      obtain ⟨p, hp⟩ : ∃ p, pos l k = p := ⟨_, rfl⟩
      obtain ⟨m, hm'⟩ : ∃ m, be4 l (pos l k) = m := ⟨_, rfl⟩
      obtain ⟨c, hc⟩ : ∃ c, cont l (pos l k) = c := ⟨_, rfl⟩
      rw [hm'] at x1 hown hcl hp1 hp2
      rw [hc] at hown hcl
      rw [hp] at x0 hp1 hlp8
      have hj2 : J pre (wr.alloc (.cells #[.int .i64 (p : Int), .slice (some ⟨g, 0, none⟩) m gc] 31)) := hJ _ _ _ hj ((Below.refl _ _).alloc (Nat.le_refl _) _)
      have hown2 : OwnB (wr.alloc (.cells #[.int .i64 (p : Int), .slice (some ⟨g, 0, none⟩) m gc] 31)) (lp + 1) (.slice (some ⟨g, 0, none⟩) m gc) c := (hown.mono (by omega)).below ((Below.refl _ _).alloc (Nat.le_refl _) _)
      have hok : ItOk l (lp + 1) pre ⟨.slice (some ⟨g, 0, none⟩) m gc, c, wr.alloc (.cells #[.int .i64 (p : Int), .slice (some ⟨g, 0, none⟩) m gc] 31)⟩ (wr.alloc (.cells #[.int .i64 (p : Int), .slice (some ⟨g, 0, none⟩) m gc] 31)) :=
        ⟨rfl, hown2, ⟨g, gc, by show _ = Value.slice _ c.length gc; rw [hcl]⟩, by show c = _; rw [hkl, hc], by rw [hkl]; have := HN.out; omega⟩
      obtain ⟨fn, tmps, assign, body, hy, hR⟩ := hY 8 pre ⟨.slice (some ⟨g, 0, none⟩) m gc, c, wr.alloc (.cells #[.int .i64 (p : Int), .slice (some ⟨g, 0, none⟩) m gc] 31)⟩ _ hj2 hok
      unfold itEnc at hy
      simp only at hy
      have HR := Lib.hid hR
      have HX := Lib.hid (And.intro hrk (And.intro hcs (And.intro hkl (And.intro hp hc))))
      clear hR hrk hcs hj hj2 hok hown hown2 hblk hc0 hc1 hp hc hm' hcl hk'
      gi_wp2
      refine HR.out.mono ?_
      rintro e W3 (⟨rfl, hj3⟩ | ⟨rfl, hjx3⟩)
      · have hkk := hJK _ _ _ hj3
        have hrk3 : RecsK W3 W.heap.size (some ⟨g0, 0, none⟩) l N := ((HX.out.1.keeps (M := lp + 1) (KeepsK.of_below ((Below.refl _ _).alloc (Nat.le_refl _) _)) (by omega)).keeps hkk (by omega))
        have H3 := Lib.hid (And.intro hj3 hrk3)
        clear hj3 hrk3 hkk
        gi_wp2
        go_roundw
        case rel =>
          refine ⟨pre ++ [⟨.slice (some ⟨g, 0, none⟩) m gc, c, wr.alloc (.cells #[.int .i64 (p : Int), .slice (some ⟨g, 0, none⟩) m gc] 31)⟩], ?_, ?_, H3.out.1, H3.out.2, ?_⟩
          · rw [List.length_append, HX.out.2.2.1]; go_num
          · rw [List.length_append, HX.out.2.2.1]; exact hlt
          · intro i x hx
            by_cases hi : i < k
            · rw [List.getElem?_append_left (by rw [HX.out.2.2.1]; exact hi)] at hx
              exact HX.out.2.1 i x hx
            · have hlen := (List.getElem?_eq_some_iff.1 hx).1
              rw [List.length_append, HX.out.2.2.1] at hlen
              have hik : i = k := by simp at hlen; omega
              subst hik
              rw [List.getElem?_append_right (by rw [HX.out.2.2.1]; exact Nat.le_refl _), HX.out.2.2.1, Nat.sub_self] at hx
              cases hx
              exact HX.out.2.2.2.2.symm
        case measure => simp [intOf]; omega
      · have H3 := Lib.hid hjx3
        clear hjx3
        gi_wp2
        refine bodyPost_ret (results_none rfl _ _ _) rfl ?_
        exact ⟨⟨_, rfl⟩, .inr ⟨_, H3.out, by unfold ItStop; rw [List.length_append]; exact Nat.succ_pos _⟩⟩
    · have hkN : k = N := by omega
      have HX := Lib.hid (And.intro hj (And.intro hcs (And.intro hkl hkN)))
      clear hj hcs hrk hkl
      subst hkN
      gi_wp2
      refine bodyPost_end (results_none rfl _ _ _) rfl ?_
      refine ⟨⟨_, rfl⟩, .inl ⟨pre, HX.out.1, ?_⟩⟩
      unfold ItEnd
      rw [HX.out.2.2.1]
      exact ⟨H1.out.2.2.1, H1.out.2.2.2, HX.out.2.1⟩
end Go.Proofs.YtconcmjmdhdgjaaDoor
