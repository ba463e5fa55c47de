/- The contract of the law's made: a message from a number. -/
import Derived.Test.YtkfkleafonpbgaaWorks
import Derived.Test.YtkfkleafonpbgaaShelf
import Derived.IntWalk
namespace Go.Proofs.Ytkfkleafonpbgaa
open Go.RowKit

def rep (c : UInt8) (k : Nat) : ByteArray := ⟨(Lib.repeatL [c] k).toArray⟩
theorem rep_size (c : UInt8) (k : Nat) : (rep c k).size = k := by
  unfold rep
  show (Lib.repeatL [c] k).toArray.size = k
  simp [Lib.repeatL_length]
def mkEnt (n i : Nat) : Ent := ⟨(i : Int), 1 + (n : Int) % 6, 0, rep 119 (i + n % 2)⟩
def mkMs (n : Nat) : Ms := ⟨1 + (n : Int) % 11, (n : Int) % 7, (n : Int) % 5, (n : Int) / 3, (n : Int) % 3, (n : Int) % 100, (n : Int), rep 118 (n % 9), (List.range (n % 4)).map (mkEnt n)⟩
theorem mk_list_len (n : Nat) : (mkMs n).list.length = n % 4 := by show ((List.range (n % 4)).map (mkEnt n)).length = _; simp
theorem mk_val (n : Nat) : (mkMs n).val.size ≤ 65536 := by show (rep 118 (n % 9)).size ≤ _; rw [rep_size]; omega
theorem mk_short (n : Nat) : ¬ LongE (mkMs n).list := by
  rintro ⟨i, e, he, hl⟩
  have he' : ((List.range (n % 4)).map (mkEnt n))[i]? = some e := he
  rw [List.getElem?_map] at he'
  cases hr : (List.range (n % 4))[i]? with
  | none => rw [hr] at he'; cases he'
  | some j =>
    rw [hr] at he'
    have hi := (List.getElem?_eq_some_iff.1 hr)
    obtain ⟨h1, h2⟩ := hi
    simp at h1 h2
    have : e = mkEnt n j := (Option.some.inj he').symm
    subst this
    have : (mkEnt n j).val.size = j + n % 2 := rep_size _ _
    omega
theorem rowNot {w : World} {B b n : Nat} {e t : TypeId} {size : Nat} {v : Value} {xs : List Value} {cs : Array Value} {fr : Nat × Nat} (h : w.ownsRow B e size v n xs) (hb : w.heap[b]? = some (.cells cs t fr)) (ht : t ≠ e) : v.ownBlock ≠ some b := by
  intro hv
  rcases h.2 with ⟨e, _⟩ | ⟨g, cap, cur, e, hB, hg, r⟩
  · rw [e] at hv; cases hv
  · rw [e] at hv; simp [Value.ownBlock] at hv; subst hv; rw [hg] at hb; cases hb; exact ht rfl
/-- strings.Repeat of one byte. -/
theorem rep_any (c : UInt8) (x : Int) (k : Nat) (w : World) (hx : x = (k : Int)) (hk : k ≤ 1000000) : Calls Try.prog 33 #[.string ⟨#[c]⟩, .int .i64 x] w fun e w' => e = .returned (.string (rep c k)) ∧ Below w.heap.size w w' := by
  subst hx
  exact Try.strings_Repeat ⟨#[c]⟩ k w (by omega) (by show 1 * k ≤ _; omega)
def MadeTo (w : World) (n : Nat) (e : Ending) (w' : World) : Prop := ∃ A C, e = .returned (.agg #[.int .i64 (mkMs n).kind, .int .i64 (mkMs n).frm, .int .i64 (mkMs n).to, .int .i64 (mkMs n).round, .int .i64 (mkMs n).node, .int .i64 (mkMs n).slot, .int .i64 (mkMs n).num, .string (mkMs n).val, .slice A (n % 4) C]) ∧ EOwn w' w.heap.size (.slice A (n % 4) C) (mkMs n).list ∧ Below w.heap.size w w'
def mkCells (n : Nat) (v : Value) : Array Value := #[.int .i64 (1 + (n : Int) % 11), .int .i64 ((n : Int) % 7), .int .i64 ((n : Int) % 5), .int .i64 ((n : Int) / 3), .int .i64 ((n : Int) % 3), .int .i64 ((n : Int) % 100), .int .i64 (n : Int), .string (rep 118 (n % 9)), v]
def MadeInv (w : World) (X n k : Nat) (wr : World) : Prop :=
  ∃ A C, wr.heap[w.heap.size]? = some (.cells #[.int .i64 0, .int .i64 0, .int .i64 0, .int .i64 0, .int .i64 0, .int .i64 0, .int .i64 0, .string ⟨#[]⟩, .slice none 0 0] 26) ∧ wr.heap[X]? = some (.cells #[.int .i64 (1 + (n : Int) % 11), .int .i64 ((n : Int) % 7), .int .i64 ((n : Int) % 5), .int .i64 ((n : Int) / 3), .int .i64 ((n : Int) % 3), .int .i64 ((n : Int) % 100), .int .i64 (n : Int), .string (rep 118 (n % 9)), .slice A k C] 26) ∧
    wr.ownsRow w.heap.size 59 4 (.slice A k C) k (ecells ((List.range k).map (mkEnt n))) ∧ Below w.heap.size w wr

set_option maxRecDepth 20000 in
set_option maxHeartbeats 1000000 in
theorem made_any (n : Nat) (w : World) (hn : n ≤ 65535) : Calls Try.prog 22 #[.int .u16 (n : Int)] w (MadeTo w n) := by
  have hb0 : Below w.heap.size w (w.alloc (.cells #[.int .i64 0, .int .i64 0, .int .i64 0, .int .i64 0, .int .i64 0, .int .i64 0, .int .i64 0, .string ⟨#[]⟩, .slice none 0 0] 26)) := (Below.refl _ _).alloc (Nat.le_refl _) _
  have HZ := Lib.hid (And.intro hb0 (zeroMsg_blk w))
  clear hb0
  go_enter Try.func22, Try.ntmps22
  go_wp2_with fail
  refine (rep_any 118 ((n : Int) % 9) (n % 9) _ (by omega) (by omega)).mono ?_
  rintro e w1 ⟨rfl, hb1⟩
  have H1 := Lib.hid (And.intro (belowStep HZ.out.1 hb1) (blk_below' HZ.out.2 hb1))
  clear hb1
  obtain ⟨i0, hi, hz0, hz1, hz2⟩ := info_parts Try.info59
  have HI := Lib.hid (And.intro hi (And.intro hz0 (And.intro hz1 hz2)))
  clear hi hz0 hz1 hz2
  go_wp2_with fail
  obtain ⟨X, hX⟩ : ∃ X, w1.heap.size = X := ⟨_, rfl⟩
  obtain ⟨W0, hW0⟩ : ∃ W0, w1.alloc (.cells #[.int .i64 (1 + (n : Int) % 11), .int .i64 ((n : Int) % 7), .int .i64 ((n : Int) % 5), .int .i64 ((n : Int) / 3), .int .i64 ((n : Int) % 3), .int .i64 ((n : Int) % 100), .int .i64 (n : Int), .string (rep 118 (n % 9)), .slice none 0 0] 26) = W0 := ⟨_, rfl⟩
  have h00 : MadeInv w X n 0 W0 := by
    refine ⟨none, 0, by rw [← hW0]; exact blk_alloc H1.out.2 _, by rw [← hW0, ← hX]; exact blk_new w1 _, World.ownsRow_nil _ _ _ _, ?_⟩
    rw [← hW0]; exact belowStep H1.out.1 ((Below.refl _ _).alloc (Nat.le_refl _) _)
  rw [hW0, hX]
  have H0 := Lib.hid h00
  have hXw : w.heap.size < X := by
    rw [← hX]; exact lt_of_blk H1.out.2
  clear h00 hW0 hX
  go_loopw [29] (fun i wr => ∃ k : Nat, k ≤ n % 4 ∧ i = .int .i64 (k : Int) ∧ MadeInv w X n k wr) (fun i _ => n % 4 - (intOf i).toNat)
  case atStart => exact ⟨0, Nat.zero_le _, rfl, H0.out⟩
  case round =>
    obtain ⟨k, hk, rfl, A, C, m1, m2, m3, m4⟩ := hrel
    obtain ⟨b0, b1, b2, b3, b4, b5, b6, b7, b8, bf⟩ := cell9 m2
    have zX := lt_of_blk m2
    have HM := Lib.hid (And.intro m1 (And.intro m2 (And.intro m3 m4)))
    by_cases hlt : k < n % 4
    · have hlt' : (k : Int) < (n : Int) % 4 := by omega
      have HF := Lib.hid (rep_any 119 ((k : Int) + (n : Int) % 2) (k + n % 2) wr.drew (by omega) (by omega))
      have hC1 : k + 1 ≤ maxLen := by unfold maxLen; omega
      have hC2 : (k + 1) * 40 ≤ 140737488355328 := by omega
      have hz3 := HM.out.2.2.2.size
      have t6 : (n : Int).tmod 6 = (n : Int) % 6 := Int.tmod_eq_emod_of_nonneg (by omega)
      have t2 : (n : Int).tmod 2 = (n : Int) % 2 := Int.tmod_eq_emod_of_nonneg (by omega)
      have w6 : IntKind.i64.wrap (1 + (n : Int) % 6) = 1 + (n : Int) % 6 := IntWalk.i64_in _ (by omega)
      have w2 : IntKind.i64.wrap ((k : Int) + (n : Int) % 2) = (k : Int) + (n : Int) % 2 := IntWalk.i64_in _ (by omega)
      clear m1 m2 m3 m4
      go_wp2_with fail
      go_region_law ((first
        | (refine step_append_lies _ (by rfl) _ _ 24 (by rfl) w.heap.size 59 i0 _ 4 40 Try.underlying24 HI.out.1 HI.out.2.1 HI.out.2.2.1 HI.out.2.2.2 rfl (by decide) (.slice A k C) k (ecells ((List.range k).map (mkEnt n))) (by rfl) (H3.out.2.1.alloc _) ⟨w3.heap.size, 0, none⟩ 1 1 [.int .i64 (k : Int), .int .i64 (1 + (n : Int) % 6), .int .i64 0, .string (rep 119 (k + n % 2))] (by rfl) (by rfl) (World.news_of_block (cs := #[.int .i64 (k : Int), .int .i64 (1 + (n : Int) % 6), .int .i64 0, .string (rep 119 (k + n % 2))]) (t := 59) (fr := (0, 0)) (heap_alloc_new w3 _)) (by simp [Value.oneCell']) (Nat.succ_pos _) hC1 hC2 (Nat.le_trans H3.out.1.size (by simp)) (w3.heap.size + 1) (by simp) ?_
           intro g cap w4 hown4 hg4 hat4 _
           have k4 := grow_blk hg4 (blk_alloc (blk_below' (w := wr.drew) HM.out.2.1 H3.out.2.2) _) (fun e => rowNot HM.out.2.2.1 HM.out.2.1 (by decide) e.symm)
           have h4 := grow_blk hg4 (blk_alloc (blk_below' (w := wr.drew) HM.out.1 H3.out.2.2) _) (fun e => rowNot HM.out.2.2.1 HM.out.1 (by decide) e.symm)
           have g8 := cell_blk k4 8
           have g8f := free_blk k4 8
           simp at g8
           have H4 := Lib.hid (And.intro hown4 (And.intro hg4 (And.intro k4 (And.intro h4 hat4))))
           clear hown4 hg4 hat4 k4 h4)
        | (go_simp
           go_at_call 33
           refine HF.out.mono ?_
           rintro e w3 ⟨rfl, hb3⟩
           have k3 := blk_below' (w := wr.drew) HM.out.2.1 hb3
           have e8 := cell_blk k3 8
           have e8f := free_blk k3 8
           simp at e8
           have zX3 := lt_of_blk k3
           have hr3 : w3.ownsRow w.heap.size 59 4 (.slice A k C) k (ecells ((List.range k).map (mkEnt n))) := row_upd (w := wr.drew) (F := fun _ => False) HM.out.2.2.1 (Upd.of_below hb3) (fun _ _ f => f)
           have H3 := Lib.hid (And.intro (belowStep HM.out.2.2.2.drew hb3) (And.intro hr3 hb3))
           clear hb3 k3 hr3
           go_wp2_with fail)))
      all_goals
        clear t6 t2 w6 w2
        go_wp2
        go_roundw
        case rel =>
          refine ⟨k + 1, hlt, by go_num, some ⟨g, 0, none⟩, cap, ?_, by simpa using blk_set H4.out.2.2.1 8 (.slice (some ⟨g, 0, none⟩) (k + 1) cap), ?_, ?_⟩
          · exact blk_other H4.out.2.2.2.1 _ _ (by simp; omega)
          · have e : ecells ((List.range (k + 1)).map (mkEnt n)) = ecells ((List.range k).map (mkEnt n)) ++ [.int .i64 (k : Int), .int .i64 (1 + (n : Int) % 6), .int .i64 0, .string (rep 119 (k + n % 2))] := by
              rw [List.range_succ, List.map_append, ecells_append]; rfl
            rw [e]
            refine row_upd (F := fun b => b = X) H4.out.1 ((Upd.refl _ w4).setCell _ _ (.inl rfl)) (fun b h e => ?_)
            exact rowNot H4.out.1 H4.out.2.2.1 (by decide) (by rw [h, e])
          · have hbw := H3.out.1
            have hba := hbw.alloc hbw.size (.cells #[.int .i64 (k : Int), .int .i64 (1 + (n : Int) % 6), .int .i64 0, .string (rep 119 (k + n % 2))] 59)
            exact (hba.grown H4.out.2.1 hba.size (fun b e => (HM.out.2.2.1.lt b e).1))  |>.setCell (by show w.heap.size ≤ X; omega) _
        case measure => simp [intOf]; omega
    · obtain rfl : k = n % 4 := by omega
      obtain ⟨c0, c1, c2, c3, c4, c5, c6, c7, c8, cf⟩ := cell9 m1
      clear m1 m2 m3 m4
      go_wp2_with fail
      refine bodyPost_ret (v := .agg #[.int .i64 (1 + (n : Int) % 11), .int .i64 ((n : Int) % 7), .int .i64 ((n : Int) % 5), .int .i64 ((n : Int) / 3), .int .i64 ((n : Int) % 3), .int .i64 ((n : Int) % 100), .int .i64 (n : Int), .string (rep 118 (n % 9)), .slice A (n % 4) C]) (by simp [results, Try.results22, go_sem, c0, c1, c2, c3, c4, c5, c6, c7, c8, cf]) rfl ⟨A, C, rfl, ?_, ?_⟩
      · have ho : EOwn wr w.heap.size (.slice A (n % 4) C) (mkMs n).list := by
          unfold EOwn; rw [mk_list_len]; exact HM.out.2.2.1
        have hne := rowNot HM.out.2.2.1 HM.out.1 (by decide)
        repeat refine EOwn.other ?_ _ _ hne
        exact ho
      · have hb := HM.out.2.2.2
        repeat refine Below.setCell ?_ (by simp) _
        exact hb
end Go.Proofs.Ytkfkleafonpbgaa
