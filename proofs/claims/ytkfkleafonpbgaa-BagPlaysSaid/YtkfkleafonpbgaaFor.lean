/- The contract of bag.For. -/
import Derived.Test.YtkfkleafonpbgaaCopy
import Derived.Test.YtkfkleafonpbgaaRange
import Derived.Shelf.Abstract
import Derived.RangeFuncBox
namespace Go.Proofs.Ytkfkleafonpbgaa
open Go.RowKit Go.Shelf
attribute [local go_sem] Oper.semAt_some

theorem Try.info3 : (Try.prog.info? 3).map (fun i => (i.zero, i.size, i.bytes)) = some (some (.int .i64 0), 1, 8) := by kernel_rfl
def iv (i : Nat) : Value := .int .i64 (i : Int)
/-- A list of numbers of the call's own. -/
def IOwn (w : World) (B : Nat) (v : Value) (l : List Nat) : Prop := w.ownsRow B 3 1 v l.length (l.map iv)
/-- The indexes below k of the messages to a node. -/
def forL (ms : List Ms) (node : Int) (k : Nat) : List Nat := (List.range k).filter fun i => decide ((ms[i]?.getD Ms.zero).to = node)
theorem forL_zero (ms : List Ms) (node : Int) : forL ms node 0 = [] := rfl
theorem forL_yes (ms : List Ms) (node : Int) (k : Nat) (m : Ms) (h : ms[k]? = some m) (hm : m.to = node) : forL ms node (k + 1) = forL ms node k ++ [k] := by
  unfold forL; rw [List.range_succ, List.filter_append]; simp [h, hm]
theorem forL_no (ms : List Ms) (node : Int) (k : Nat) (m : Ms) (h : ms[k]? = some m) (hm : m.to ≠ node) : forL ms node (k + 1) = forL ms node k := by
  unfold forL; rw [List.range_succ, List.filter_append]; simp [h, hm]
theorem forL_len (ms : List Ms) (node : Int) (k : Nat) : (forL ms node k).length ≤ k := by
  unfold forL; exact Nat.le_trans (List.length_filter_le _ _) (by simp)

theorem to_any (bv : Value) (node : Int) (w : World) (p : Option Addr) (hb : bv = .pointer p) :
    Calls Try.prog 41 #[bv, .int .i64 node] w fun e w' => e = .returned (.func (.func 57) #[] #[.pointer (some ⟨w.heap.size, 0, none⟩), .pointer (some ⟨w.heap.size + 1, 0, none⟩)]) ∧ (w.alloc (.cells #[bv] 32)).alloc (.cells #[.int .i64 node] 3) = w' := by
  subst hb
  go_enter Try.func41, Try.ntmps41
  go_wp2
  go_ret
  exact ⟨rfl, rfl⟩

/-- What the iterator reads. -/
def ToMem (w : World) (D : Nat) (vb : Value) (ps : List Pm) (s : Bs) (bx nx : Nat) (node : Int) : Prop :=
  BagAt w D vb ps s ∧ w.heap[bx]? = some (.cells #[.pointer (some ⟨D, 0, none⟩)] 32) ∧ w.heap[nx]? = some (.cells #[.int .i64 node] 3)
theorem ToMem.below {w w' : World} {D : Nat} {vb : Value} {ps : List Pm} {s : Bs} {bx nx : Nat} {node : Int} (h : ToMem w D vb ps s bx nx node) (hb : Below w.heap.size w w') : ToMem w' D vb ps s bx nx node :=
  ⟨h.1.below hb, blk_below' h.2.1 hb, blk_below' h.2.2 hb⟩

set_option maxRecDepth 20000 in
set_option maxHeartbeats 8000000 in
theorem to_it (D : Nat) (vb : Value) (ps : List Pm) (s : Bs) (bx nx lp : Nat) (node : Int) (J Jx : List Nat → World → Prop) (W : World)
    (hJ : ∀ s W W', J s W → Below W.heap.size W W' → J s W') (hJM : ∀ l W, J l W → ToMem W D vb ps s bx nx node)
    (hY : YieldsTo Try.prog lp (fun i => #[iv i]) (fun pre _ _ => pre.length < 512) J Jx) (h0 : J [] W) :
    Calls Try.prog 57 #[.func (.yield lp) #[] #[], .pointer (some ⟨bx, 0, none⟩), .pointer (some ⟨nx, 0, none⟩)] W (IterEnd J Jx (fun xs _ => xs = forL s.ms node ps.length) (fun _ _ => True)) := by
  have hM := hJM _ _ h0
  obtain ⟨Av, Cv, hv, hc1, hc2, hAv⟩ := hM.1.form
  have hfew := hM.1.few
  obtain ⟨n, hn⟩ : ∃ n, ps.length = n := ⟨_, rfl⟩
  rw [hn] at hv hc1 hfew
  have c2 := cell_blk hM.1.blk 2
  rw [hv] at c2
  have cb := cell_blk hM.2.1 0
  simp at c2 cb
  have hcv : Cv ≤ 9223372036854775807 := hc2
  have hbase := hM.1.is
  have HJ := Lib.hid (And.intro h0 (And.intro hv (And.intro hn hbase)))
  clear h0 hM hv hc2 hAv
  refine (callsIn_wide (n := 9)).1 (callsIn_of_wp Try.func57 rfl trivial ?_ rfl)
  simp only [Try.ntmps57, List.size_toArray, List.length_cons, List.length_nil, Nat.reduceAdd, Nat.reduceSub, Array.replicate_succ, Array.replicate_zero, List.push_toArray, List.append_toArray, List.nil_append, List.cons_append]
  clear hn hbase
  gi_wp2_with fail
  gi_loopw [11] (fun i wr => ∃ k : Nat, i = .int .i64 (k : Int) ∧ k ≤ n ∧ J (forL s.ms node k) wr) (fun i _ => n - (intOf i).toNat)
  case atStart => exact ⟨0, rfl, Nat.zero_le _, HJ.out.1⟩
  case round =>
    obtain ⟨k, rfl, hk, hj⟩ := hrel
    by_cases hlt : k < n
    · have hM := hJM _ _ hj
      have hkl : k < ps.length := by rw [HJ.out.2.2.1]; exact hlt
      obtain ⟨⟨m, pv⟩, hp⟩ : ∃ p, ps[k]? = some p := ⟨_, List.getElem?_eq_getElem hkl⟩
      have hmk : s.ms[k]? = some m := by rw [← HJ.out.2.2.2, List.getElem?_map, hp]; rfl
      obtain ⟨g, cap, hv', -, -, hcell⟩ := hM.1.cells k _ hp
      have hv'' := hv'.symm.trans HJ.out.2.1
      simp only [Value.slice.injEq] at hv''
      obtain ⟨rfl, -, rfl⟩ := hv''
      obtain ⟨A, C, hpv, -⟩ := (hM.1.ents _ (List.mem_of_getElem? hp)).1.lv
      obtain ⟨k1, k2, k3, k4, k5, k6, k7, ms, l⟩ := m
      simp only at hpv
      subst hpv
      have x0 := hcell 0 (by omega)
      have x1 := hcell 1 (by omega)
      have x2 := hcell 2 (by omega)
      have x3 := hcell 3 (by omega)
      have x4 := hcell 4 (by omega)
      have x5 := hcell 5 (by omega)
      have x6 := hcell 6 (by omega)
      have x7 := hcell 7 (by omega)
      have x8 := hcell 8 (by omega)
      simp [mcells] at x0 x1 x2 x3 x4 x5 x6 x7 x8
      have y2 := cell_blk hM.2.2 0
      simp at y2
      have zn := lt_of_blk hM.2.2
      have hj2 : J (forL s.ms node k) (wr.alloc (.cells #[.int .i64 k1, .int .i64 k2, .int .i64 k3, .int .i64 k4, .int .i64 k5, .int .i64 k6, .int .i64 k7, .string ms, .slice A l.length C] 26)) := hJ _ _ _ hj ((Below.refl _ _).alloc (Nat.le_refl _) _)
      by_cases hto : k3 = node
      · have hq : (k3 == node) = true := by simp [hto]
        obtain ⟨fn, tmps, assign, body, hy, hR⟩ := hY 8 (forL s.ms node k) k _ hj2 (by have := forL_len s.ms node k; omega)
        unfold iv at hy
        simp only at hy
        have HR := Lib.hid (And.intro hR (forL_yes s.ms node k _ hmk hto))
        clear hR hj hj2 hM hkl hp hmk hv' hcell hto
        gi_wp2
        refine HR.out.1.mono ?_
        rintro e W3 (⟨rfl, hj3⟩ | ⟨rfl, hjx3⟩)
        · have H3 := Lib.hid hj3
          clear hj3
          gi_wp2
          go_roundw
          case rel => exact ⟨k + 1, by go_num, hlt, by rw [HR.out.2]; exact H3.out⟩
          case measure => simp [intOf]; omega
        · have H3 := Lib.hid hjx3
          clear hjx3
          gi_wp2
          refine bodyPost_ret (results_none rfl _ _ _) rfl ?_
          exact ⟨⟨_, rfl⟩, .inr ⟨_, H3.out, trivial⟩⟩
      · have hq : (k3 == node) = false := by simp [hto]
        have HR := Lib.hid (And.intro hj2 (forL_no s.ms node k _ hmk hto))
        clear hj hj2 hM hkl hp hmk hv' hcell hto
        gi_wp2
        refine ⟨fun _ h => (by cases h), ?_⟩
        gi_wp2
        go_roundw
        case rel => exact ⟨k + 1, by go_num, hlt, by rw [HR.out.2]; exact HR.out.1⟩
        case measure => simp [intOf]; omega
    · have hkn : k = n := by omega
      have HK := Lib.hid hj
      clear hj
      subst hkn
      gi_wp2
      refine bodyPost_end (results_none rfl _ _ _) rfl ?_
      exact ⟨⟨_, rfl⟩, .inl ⟨_, HK.out, by rw [HJ.out.2.2.1]⟩⟩

/-- What a round of For keeps. -/
def ForInv (w : World) (D : Nat) (vb : Value) (ps : List Pm) (s : Bs) (node : Int) (pre : List Nat) (W : World) : Prop :=
  ∃ v, W.heap[w.heap.size]? = some (.cells #[v] 44) ∧ IOwn W (w.heap.size + 5) v pre ∧ pre.length ≤ 512 ∧ ToMem W D vb ps s (w.heap.size + 1) (w.heap.size + 2) node ∧ Below w.heap.size w W
theorem IOwn.stays {W W' : World} {B C : Nat} {v : Value} {l : List Nat} (h : IOwn W C v l) (hs : Stays B W W') (hC : B + 2 ≤ C) : IOwn W' C v l := by
  refine ⟨h.1, ?_⟩
  rcases h.2 with hn | ⟨g, cap, cur, hv, hB, hg, r⟩
  · exact .inl hn
  · exact .inr ⟨g, cap, cur, hv, hB, hs.blk hg (by omega) (by omega), r⟩
theorem IOwn.mono {w : World} {B B' : Nat} {v : Value} {l : List Nat} (h : IOwn w B v l) (hB : B' ≤ B) : IOwn w B' v l := by
  refine ⟨h.1, ?_⟩
  rcases h.2 with hn | ⟨g, cap, cur, hv, hb, r⟩
  · exact .inl hn
  · exact .inr ⟨g, cap, cur, hv, Nat.le_trans hB hb, r⟩
theorem IOwn.below {w w' : World} {B : Nat} {v : Value} {l : List Nat} (h : IOwn w B v l) (hb : Below w.heap.size w w') : IOwn w' B v l := by
  refine ⟨h.1, ?_⟩
  rcases h.2 with hn | ⟨g, cap, cur, hv, hB, hg, r⟩
  · exact .inl hn
  · exact .inr ⟨g, cap, cur, hv, hB, blk_below' hg hb, r⟩
theorem row_ne {w : World} {base b : Nat} {e : TypeId} {size n : Nat} {v : Value} {xs : List Value} (h : w.ownsRow base e size v n xs) (hb : b < base) : some b ≠ v.ownBlock := fun e => by
  have := (h.lt b e.symm).1; omega
/-- What is told where only the blocks B and B + 1 turn, which lie behind. -/
theorem ToMem.stays {W W' : World} {B D : Nat} {vb : Value} {ps : List Pm} {s : Bs} {bx nx : Nat} {node : Int} (h : ToMem W D vb ps s bx nx node) (hs : Stays B W W') (hB : ∀ b, foot D vb ps b → b < B) (hb : bx < B) (hn : nx < B) : ToMem W' D vb ps s bx nx node :=
  ⟨h.1.upd (F := fun b => b = B ∨ b = B + 1) ⟨hs.os, hs.tape, hs.output, hs.size, fun k hk hF => hs.block k hk (fun e => hF (.inl e)) (fun e => hF (.inr e))⟩ (fun b hb' e => by have := hB b hb'; omega), hs.blk h.2.1 (by omega) (by omega), hs.blk h.2.2 (by omega) (by omega)⟩
theorem ToMem.upd {F : Nat → Prop} {W W' : World} {D : Nat} {vb : Value} {ps : List Pm} {s : Bs} {bx nx : Nat} {node : Int} (h : ToMem W D vb ps s bx nx node) (hU : Upd F W W') (hF : ∀ b, foot D vb ps b → ¬ F b) (hb : ¬ F bx) (hn : ¬ F nx) : ToMem W' D vb ps s bx nx node :=
  ⟨h.1.upd hU hF, hU.blk h.2.1 hb, hU.blk h.2.2 hn⟩
theorem ForInv.stays {w W W' : World} {D : Nat} {vb : Value} {ps : List Pm} {s : Bs} {node : Int} {pre : List Nat} (h : ForInv w D vb ps s node pre W) (hf : ∀ b, foot D vb ps b → b < w.heap.size) (hs : Stays (w.heap.size + 3) W W') : ForInv w D vb ps s node pre W' := by
  obtain ⟨v, h1, h2, h3, h4, h5⟩ := h
  exact ⟨v, hs.blk h1 (by omega) (by omega), h2.stays hs (by omega), h3, h4.stays hs (fun b hb => by have := hf b hb; omega) (by omega) (by omega), h5.trans (hs.below (by omega) h5.size)⟩
def ForTo (w : World) (l : List Nat) (e : Ending) (w' : World) : Prop := ∃ v, e = .returned v ∧ IOwn w' w.heap.size v l ∧ Below w.heap.size w w'
theorem cells_new1 (w : World) (x : Value) (t : TypeId) : ∀ j u, [x][j]? = some u → (w.alloc (.cells #[x] t)).cell? ((⟨w.heap.size, 0, none⟩ : Addr).add j) = some u := by
  intro j u hu
  rw [Addr.add_lit, Nat.zero_add, cell_blk (blk_new _ _)]
  simpa using hu

end Go.Proofs.Ytkfkleafonpbgaa
