/- What the walk of skaldlaw04.FrameKnown leans on: Join where a content is too long; slices that make returns; small computations. -/
import Derived.Test.YtconcmjmdhdgjaaDoorRefMake
import Derived.Test.YtconcmjmdhdgjaaDoorChanged
import Derived.Laws.OwnMore
namespace Go.Proofs.YtconcmjmdhdgjaaDoor
open Go.RowKit

set_option maxHeartbeats 2000000 in
theorem join_bad (a : Option Addr) (ls : List (List UInt8)) (n cap b0 : Nat) (w : World) (hn : ls.length = n) (hm : n ≤ 10000) (hb0 : b0 < n) (hgood : ∀ i, i < b0 → (tx ls i).length ≤ 65536) (hbad : 65536 < (tx ls b0).length) (hmx : (tx ls b0).length ≤ 140737488355328) (hf : Fours w) (hl : TextsAt w a ls) :
    Calls Tryd.prog 26 #[.slice a n cap] w fun e w' => e = .returned (.tuple #[.slice none 0 0, .int .i64 11]) ∧ Below w.heap.size w w' := by
  have HF := Lib.hid (And.intro hf (And.intro hl (And.intro hgood (And.intro hn (And.intro hbad hmx)))))
  clear hf hl hgood hn hbad hmx
  go_enter Tryd.func26, Tryd.ntmps26
  go_wp2
  go_loopw [4, 14] (fun out i wr => ∃ k : Nat, k ≤ b0 ∧ i = .int .i64 (k : Int) ∧ OwnB wr w.heap.size out (joinB (ls.take k)) ∧ Below w.heap.size w wr) (fun _ i _ => n - (intOf i).toNat)
  case atStart => exact ⟨0, Nat.zero_le _, rfl, OwnB.nil _ _, Below.refl _ _⟩
  case round =>
    obtain ⟨k, hk, rfl, hown, hB⟩ := hrel
    have hkl : k < ls.length := by rw [HF.out.2.2.2.1]; omega
    obtain ⟨b, off, rfl, hb1, A, C, hc, h2, h3, h4, h5⟩ : ∃ b off, a = some ⟨b, off, none⟩ ∧ b < w.heap.size ∧ ∃ A C, w.cell? ⟨b, off + k, none⟩ = some (.slice A (tx ls k).length C) ∧ (tx ls k).length ≤ C ∧ C ≤ maxLen ∧ (A = none → C = 0) ∧ BytesAt w A (tx ls k) := by
      rcases HF.out.2.1 with h | ⟨b, off, h1, h2, h3⟩
      · rw [h] at hkl; simp at hkl
      · exact ⟨b, off, h1, h2, h3 k hkl⟩
    have hcell := (hB.cell (p := ⟨b, off + k, none⟩) hb1).trans hc
    have hkn : k < n := by omega
    by_cases hlt : k < b0
    · have hmx := HF.out.2.2.1 k hlt
      have HT := Lib.hid (joinB_step ls k hkl)
      have HLn : (joinB (ls.take k)).length ≤ k * 65544 := by
        have hall : ∀ i, i < (ls.take k).length → (tx (ls.take k) i).length ≤ 65536 := by
          intro i hi
          rw [List.length_take] at hi
          have e : tx (ls.take k) i = tx ls i := by unfold tx; rw [List.getElem?_take, if_pos (by omega)]
          rw [e]; exact HF.out.2.2.1 i (by omega)
        have := joinB_len (ls.take k) hall k (by rw [List.length_take]; omega)
        rwa [List.take_take, Nat.min_self] at this
      obtain ⟨c, hcc⟩ : ∃ c, tx ls k = c := ⟨_, rfl⟩
      rw [hcc] at hcell hmx h5 h2
      obtain ⟨m, hm'⟩ : ∃ m, c.length = m := ⟨_, rfl⟩
      rw [hm'] at hcell h2 hmx
      have HM := Lib.hid (make_at A c C m wr hm' (by omega) (HF.out.1.below hB) (h5.below hB) h4)
      have HC := Lib.hid (And.intro hown (And.intro hB (And.intro hcc hm')))
      clear hown hB hc h2 h3 h4 h5 hcc hm' hkl
      go_wp2_with (first
        | (go_at_call 21; refine HM.out.mono ?_; rintro e w2 ⟨g2, gc2, rfl, hown2, hbl2⟩)
        | (at_builtin; refine wpList_append_any rfl _ _ rfl w.heap.size _ (joinB (ls.take k)) (recB c) rfl (HC.out.1.below hbl2) (some ⟨g2, 0, none⟩) _ gc2 rfl rfl hown2.bytes (fun h => by cases h) (by have := recB_len c; have := HC.out.2.2.2; omega) (by have := HC.out.2.1.size; have := hbl2.size; omega) ?_; intro v3 w3 hown3 hg3 hn3 hb3))
      refine ⟨⟨k + 1, hlt, rfl, ?_, ?_⟩, ?_⟩
      · rw [HT.out, HC.out.2.2.1]; exact hown3
      · exact (belowStep HC.out.2.1 hbl2).grown hg3 (by have := HC.out.2.1.size; have := hbl2.size; omega) (fun j hj => (own_ge HC.out.1 hj).1)
      · simp [intOf]; omega
    · obtain rfl : k = b0 := by omega
      have HC := Lib.hid hB
      have HM := Lib.hid (make_long A (tx ls k) C wr HF.out.2.2.2.2.1 HF.out.2.2.2.2.2)
      clear hown hB hc h2 h3 h4 h5 hkl
      go_wp2_with (go_at_call 21; refine HM.out.mono ?_; rintro e w2 ⟨rfl, rfl⟩)
      go_ret2
      exact ⟨rfl, HC.out⟩

theorem made_zero8 (n : Nat) : (madeCells (Value.int .u8 0).cells (n * 1)).toList = (List.replicate n (0 : UInt8)).map bv := by
  apply List.ext_getElem?
  intro i
  simp [madeCells, Value.cells, bv]
  by_cases h : i < n
  · simp [h, Nat.mod_one]
  · simp [h]
theorem own_made {w : World} {B g n : Nat} (h : w.ownsRow B 5 1 (.slice (some ⟨g, 0, none⟩) n n) n (madeCells (Value.int .u8 0).cells (n * 1)).toList) : OwnB w B (.slice (some ⟨g, 0, none⟩) n n) (List.replicate n 0) := by
  unfold OwnB
  rw [made_zero8] at h
  rw [List.length_replicate]
  exact h
theorem texts_made {w : World} {B g n : Nat} (h : w.ownsRow B 22 1 (.slice (some ⟨g, 0, none⟩) n n) n (madeCells (Value.slice none 0 0).cells (n * 1)).toList) : TextsAt w (some ⟨g, 0, none⟩) (List.replicate n []) := by
  rcases h.2 with ⟨h1, _⟩ | ⟨g', cap', cur, h1, hB, hg, hn, hm, hs, ht⟩
  · cases h1
  · cases h1
    refine .inr ⟨g, 0, rfl, lt_of_blk hg, fun i hi => ?_⟩
    rw [List.length_replicate] at hi
    have e : tx (List.replicate n ([] : List UInt8)) i = [] := by unfold tx; rw [List.getElem?_replicate, if_pos hi]; rfl
    refine ⟨none, 0, ?_, by rw [e]; exact Nat.le_refl _, Nat.zero_le _, fun _ => rfl, .inl e⟩
    rw [e, Nat.zero_add, cell_blk hg]
    have h2 : (cur.toList.take (n * 1))[i]? = some (.slice none 0 0) := by
      rw [ht]
      simp [madeCells, Value.cells, hi, Nat.mod_one]
    rw [List.getElem?_take, if_pos (by omega)] at h2
    simpa using h2
theorem join_nils (n : Nat) : (joinB (List.replicate n [])).length = 8 * n := by
  induction n with
  | zero => rfl
  | succ n ih =>
    rw [List.replicate_succ]
    show (recB [] ++ joinB (List.replicate n [])).length = _
    rw [List.length_append, ih, recB_len]; simp; omega
def zero8 : List UInt8 := [0, 0, 0, 0, 0, 0, 0, 0]
theorem rec_nil : recB [] = zero8 := by decide
def big8 : List UInt8 := [0, 1, 0, 1, 0, 0, 0, 0]
theorem big_next (m : List UInt8) : nextE (big8 ++ m) 0 = 10 := by
  have hb : be4 (big8 ++ m) 0 = 65537 := by
    have e : ∀ i, i < 8 → bt (big8 ++ m) i = bt big8 i := by
      intro i hi; unfold bt; rw [List.getElem?_append_left (by show i < 8; exact hi)]
    unfold be4
    rw [e 0 (by omega), e (0 + 1) (by omega), e (0 + 2) (by omega), e (0 + 3) (by omega)]
    decide
  have hl : (big8 ++ m).length = 8 + m.length := by rw [List.length_append]; rfl
  unfold nextE
  rw [if_neg (by omega), if_neg (by omega), if_neg (by omega)]
  show (if 65536 < be4 (big8 ++ m) 0 ∨ _ then (10 : Int) else _) = 10
  rw [if_pos (by rw [hb]; left; omega)]
theorem own_big8 (w : World) : OwnB (w.alloc (.cells #[.int .u8 0, .int .u8 1, .int .u8 0, .int .u8 1, .int .u8 0, .int .u8 0, .int .u8 0, .int .u8 0] 5)) w.heap.size (.slice (some ⟨w.heap.size, 0, none⟩) 8 8) big8 :=
  ⟨rfl, .inr ⟨w.heap.size, 8, _, rfl, Nat.le_refl _, blk_new _ _, Nat.le_refl _, by unfold maxLen; omega, rfl, rfl⟩⟩
theorem upto_zero8 : Upto zero8 1 ∧ nextE zero8 ((pos zero8 1 : Nat) : Int) ≠ 0 := by
  refine ⟨fun i hi => ?_, by decide⟩
  obtain rfl : i = 0 := by omega
  decide
theorem upto_bad : Upto (zero8.set 5 1) 0 ∧ nextE (zero8.set 5 1) ((pos (zero8.set 5 1) 0 : Nat) : Int) ≠ 0 ∧ chkE (zero8.set 5 1) 0 = 13 :=
  ⟨fun i hi => by omega, by decide, by decide⟩
theorem upto_nil : Upto ([] : List UInt8) 0 ∧ nextE [] ((pos [] 0 : Nat) : Int) ≠ 0 ∧ chkE [] 0 = 0 :=
  ⟨fun i hi => by omega, by decide, by decide⟩
end Go.Proofs.YtconcmjmdhdgjaaDoor
