/- The contract of skaldref04.Next where the bytes of a record are there. -/
import Derived.Test.YtconcmjmdhdgjaaDoorRefNext
namespace Go.Proofs.YtconcmjmdhdgjaaDoor
open Go.RowKit

def SumTo (w : World) (l : List UInt8) (k n : Nat) (e : Ending) (w' : World) : Prop :=
  if crcV (cont l k) = be4 l (k + 4) then NextV w (k : Int) ((k : Int) + 8 + n) n (cont l k) e w' else (e = rNo 13 ∧ Below w.heap.size w w')

set_option maxHeartbeats 4000000 in
theorem rnext_found (b off : Nat) (l : List UInt8) (cap k N n : Nat) (w : World) (hN : l.length = N) (hm : N ≤ 140737488355328) (hcap : N ≤ cap) (hcm : cap ≤ maxLen)
    (hb : BytesAt w (some ⟨b, off, none⟩) l) (hn : be4 l k = n) (hg1 : n ≤ 65536) (hg2 : k + 8 + n ≤ N) :
    Calls Tryd.prog 30 #[.slice (some ⟨b, off, none⟩) N cap, .int .i64 (k : Int)] w (SumTo w l k n) := by
  unfold maxLen at hcm
  have hlen : (cont l k).length = n := by rw [cont_len l k (by omega), hn]
  obtain ⟨c, hc⟩ : ∃ c, cont l k = c := ⟨_, rfl⟩
  obtain ⟨n4, hn4⟩ : ∃ n4, be4 l (k + 4) = n4 := ⟨_, rfl⟩
  rw [hc] at hlen
  have hl4 : n4 < 4294967296 := hn4 ▸ be4_lt l (k + 4)
  have hcr := crcV_lt c
  obtain ⟨s, hs⟩ : ∃ s, crcV c = s := ⟨_, rfl⟩
  rw [hs] at hcr
  have HB := Lib.hid (And.intro hb (And.intro hn (And.intro hN (And.intro hlen (And.intro hc (And.intro hn4 hs))))))
  clear hb hn hN hlen hc hn4 hs
  have h6 : ((k : Int) == (N : Int)) = false := by simp; omega
  have hck : ¬ cap = k := by omega
  have hck4 : ¬ cap = k + 4 := by omega
  have HA : Hid (∃ A, A = (if cap = k + 8 then (⟨b, off, none⟩ : Addr) else ⟨b, off + (k + 8), none⟩) ∧ ∀ W, Below w.heap.size w W → BytesAt W (some A) c) := by
    refine Lib.hid ⟨_, rfl, fun W hB => ?_⟩
    split
    · exact .inl (List.eq_nil_of_length_eq_zero (by have := HB.out.2.2.2.1; omega))
    · have := (HB.out.1.below hB).sub (k + 8) n
      have e : (l.drop (k + 8)).take n = c := by rw [← HB.out.2.2.2.2.1, ← HB.out.2.1]; rfl
      rw [e] at this; exact this
  by_cases hc8 : cap = k + 8
  · obtain ⟨A, hA, HAB⟩ := HA.out
    rw [if_pos hc8] at hA
    subst hA
    subst hc8
    have HAB := Lib.hid HAB
    go_enter Tryd.func30, Tryd.ntmps30
    go_wp2_with fail
    have hB1 : Below w.heap.size w (w.alloc (.cells #[.int .i64 0, .slice none 0 0] 44)) := by go_grown
    refine (number_at b off k _ l n _ (by have := HB.out.2.2.1; omega) HB.out.2.1 (HB.out.1.below hB1)).mono ?_
    rintro e w1 ⟨rfl, hb1⟩
    have hw1 := blk_below' (blk_new w (.cells #[.int .i64 0, .slice none 0 0] 44)) hb1
    have HW := Lib.hid (And.intro (belowStep hB1 hb1) hw1)
    have hz := (belowStep hB1 hb1).size
    clear hb1 hw1 hB1
    go_wp2_with (at_builtin; refine wpList_append_any rfl _ _ rfl w1.heap.size (.slice (some ⟨w1.heap.size, 0, none⟩) 0 0) [] c rfl (own_lit w1 _ (Nat.le_refl _)) _ _ _ rfl (by have := HB.out.2.2.2.1; omega) (HAB.out _ (HW.out.1.alloc hz _)) (fun h => by cases h) (by have := HB.out.2.2.2.1; simp; omega) (by simp) ?_; intro v2 w2 hown2 hg2' hn2 hb2
                 have hB2 : Below w1.heap.size w1 w2 := ((Below.refl _ _).alloc (Nat.le_refl _) _).grown hg2' (by simp) (fun k hk => by simp [Value.ownBlock] at hk; omega)
                 rw [List.nil_append] at hown2
                 obtain ⟨g, C2, rfl, -, -, -, -⟩ := hown2.some (by intro hv; have := hn2.1 hv; simp at this)
                 have hby2 := hown2.bytes'
                 rw [HB.out.2.2.2.1] at hown2 ⊢
                 have H2 := Lib.hid (And.intro hown2 (And.intro hB2 (And.intro hby2 (blk_below' HW.out.2 hB2))))
                 clear hown2 hg2' hn2 hb2 hB2 hby2)
    refine (number_at b off (k + 4) _ l n4 w2 (by have := HB.out.2.2.1; omega) HB.out.2.2.2.2.2.1 (HB.out.1.below (belowStep HW.out.1 H2.out.2.1))).mono ?_
    rintro e w3 ⟨rfl, hb3⟩
    have H3 := Lib.hid (And.intro (H2.out.1.below hb3) (And.intro (H2.out.2.2.1.below hb3) (And.intro (belowStep (belowStep HW.out.1 H2.out.2.1) hb3) (blk_below' H2.out.2.2.2 hb3))))
    clear hb3
    go_wp2_with fail
    have hsum := rsum_any (some ⟨g, 0, none⟩) c n C2 w3 HB.out.2.2.2.1 (by omega) H3.out.2.1
    rw [HB.out.2.2.2.2.2.2] at hsum
    refine hsum.mono ?_
    rintro e w3' ⟨rfl, rfl⟩
    clear hsum
    have c0 := cell_blk H3.out.2.2.2 0
    have c1 := cell_blk H3.out.2.2.2 1
    have f0 := free_blk H3.out.2.2.2 0
    have f1 := free_blk H3.out.2.2.2 1
    have hz3 := H3.out.2.2.1.size
    simp at c0 c1
    by_cases hsn : s = n4
    · have HT : Hid (SumTo w l k n = NextV w (k : Int) ((k : Int) + 8 + n) n (cont l k)) := by
        refine Lib.hid ?_
        funext e w'
        show SumTo w l k n e w' = _
        unfold SumTo
        rw [if_pos (by rw [HB.out.2.2.2.2.1, HB.out.2.2.2.2.2.1, HB.out.2.2.2.2.2.2]; exact hsn)]
      subst hsn
      go_wp2
      refine bodyPost_ret (v := .tuple #[.agg #[.int .i64 (k : Int), .slice (some ⟨g, 0, none⟩) n C2], .int .i64 ((k : Int) + 8 + n), .int .i64 0]) (by simp [results, Tryd.results30, go_sem, c0, c1]) rfl ?_
      rw [HT.out]
      have hge := (own_ge H3.out.1 (b := g) rfl).1
      have hlt := lt_of_blk HW.out.2
      refine ⟨g, C2, rfl, ?_, (H3.out.2.2.1.setCell (Nat.le_refl _) _).setCell (Nat.le_refl _) _⟩
      rw [HB.out.2.2.2.2.1]
      exact own_other (own_other (H3.out.1.mono hz) _ _ (fun e => by simp [Value.ownBlock] at e; omega)) _ _ (fun e => by simp [Value.ownBlock] at e; omega)
    · have HT : Hid (SumTo w l k n = fun e w' => e = rNo 13 ∧ Below w.heap.size w w') := by
        refine Lib.hid ?_
        funext e w'
        show SumTo w l k n e w' = _
        unfold SumTo
        rw [if_neg (by rw [HB.out.2.2.2.2.1, HB.out.2.2.2.2.2.1, HB.out.2.2.2.2.2.2]; exact hsn)]
      have hsi : ¬ (n4 : Int) = (s : Int) := by omega
      have hsb : ((n4 : Int) == (s : Int)) = false := by rw [beq_eq_false_iff_ne]; exact hsi
      go_wp2
      refine bodyPost_ret (v := .tuple #[.agg #[.int .i64 0, .slice none 0 0], .int .i64 0, .int .i64 13]) (by simp [results, Tryd.results30, go_sem, c0, c1]) rfl ?_
      rw [HT.out]
      exact ⟨rfl, (H3.out.2.2.1.setCell (Nat.le_refl _) _).setCell (Nat.le_refl _) _⟩
  · obtain ⟨A, hA, HAB⟩ := HA.out
    rw [if_neg hc8] at hA
    subst hA
    have HAB := Lib.hid HAB
    go_enter Tryd.func30, Tryd.ntmps30
    go_wp2_with fail
    have hB1 : Below w.heap.size w (w.alloc (.cells #[.int .i64 0, .slice none 0 0] 44)) := by go_grown
    refine (number_at b off k _ l n _ (by have := HB.out.2.2.1; omega) HB.out.2.1 (HB.out.1.below hB1)).mono ?_
    rintro e w1 ⟨rfl, hb1⟩
    have hw1 := blk_below' (blk_new w (.cells #[.int .i64 0, .slice none 0 0] 44)) hb1
    have HW := Lib.hid (And.intro (belowStep hB1 hb1) hw1)
    have hz := (belowStep hB1 hb1).size
    clear hb1 hw1 hB1
    go_wp2_with (at_builtin; refine wpList_append_any rfl _ _ rfl w1.heap.size (.slice (some ⟨w1.heap.size, 0, none⟩) 0 0) [] c rfl (own_lit w1 _ (Nat.le_refl _)) _ _ _ rfl (by have := HB.out.2.2.2.1; omega) (HAB.out _ (HW.out.1.alloc hz _)) (fun h => by cases h) (by have := HB.out.2.2.2.1; simp; omega) (by simp) ?_; intro v2 w2 hown2 hg2' hn2 hb2
                 have hB2 : Below w1.heap.size w1 w2 := ((Below.refl _ _).alloc (Nat.le_refl _) _).grown hg2' (by simp) (fun k hk => by simp [Value.ownBlock] at hk; omega)
                 rw [List.nil_append] at hown2
                 obtain ⟨g, C2, rfl, -, -, -, -⟩ := hown2.some (by intro hv; have := hn2.1 hv; simp at this)
                 have hby2 := hown2.bytes'
                 rw [HB.out.2.2.2.1] at hown2 ⊢
                 have H2 := Lib.hid (And.intro hown2 (And.intro hB2 (And.intro hby2 (blk_below' HW.out.2 hB2))))
                 clear hown2 hg2' hn2 hb2 hB2 hby2)
    refine (number_at b off (k + 4) _ l n4 w2 (by have := HB.out.2.2.1; omega) HB.out.2.2.2.2.2.1 (HB.out.1.below (belowStep HW.out.1 H2.out.2.1))).mono ?_
    rintro e w3 ⟨rfl, hb3⟩
    have H3 := Lib.hid (And.intro (H2.out.1.below hb3) (And.intro (H2.out.2.2.1.below hb3) (And.intro (belowStep (belowStep HW.out.1 H2.out.2.1) hb3) (blk_below' H2.out.2.2.2 hb3))))
    clear hb3
    go_wp2_with fail
    have hsum := rsum_any (some ⟨g, 0, none⟩) c n C2 w3 HB.out.2.2.2.1 (by omega) H3.out.2.1
    rw [HB.out.2.2.2.2.2.2] at hsum
    refine hsum.mono ?_
    rintro e w3' ⟨rfl, rfl⟩
    clear hsum
    have c0 := cell_blk H3.out.2.2.2 0
    have c1 := cell_blk H3.out.2.2.2 1
    have f0 := free_blk H3.out.2.2.2 0
    have f1 := free_blk H3.out.2.2.2 1
    have hz3 := H3.out.2.2.1.size
    simp at c0 c1
    by_cases hsn : s = n4
    · have HT : Hid (SumTo w l k n = NextV w (k : Int) ((k : Int) + 8 + n) n (cont l k)) := by
        refine Lib.hid ?_
        funext e w'
        show SumTo w l k n e w' = _
        unfold SumTo
        rw [if_pos (by rw [HB.out.2.2.2.2.1, HB.out.2.2.2.2.2.1, HB.out.2.2.2.2.2.2]; exact hsn)]
      subst hsn
      go_wp2
      refine bodyPost_ret (v := .tuple #[.agg #[.int .i64 (k : Int), .slice (some ⟨g, 0, none⟩) n C2], .int .i64 ((k : Int) + 8 + n), .int .i64 0]) (by simp [results, Tryd.results30, go_sem, c0, c1]) rfl ?_
      rw [HT.out]
      have hge := (own_ge H3.out.1 (b := g) rfl).1
      have hlt := lt_of_blk HW.out.2
      refine ⟨g, C2, rfl, ?_, (H3.out.2.2.1.setCell (Nat.le_refl _) _).setCell (Nat.le_refl _) _⟩
      rw [HB.out.2.2.2.2.1]
      exact own_other (own_other (H3.out.1.mono hz) _ _ (fun e => by simp [Value.ownBlock] at e; omega)) _ _ (fun e => by simp [Value.ownBlock] at e; omega)
    · have HT : Hid (SumTo w l k n = fun e w' => e = rNo 13 ∧ Below w.heap.size w w') := by
        refine Lib.hid ?_
        funext e w'
        show SumTo w l k n e w' = _
        unfold SumTo
        rw [if_neg (by rw [HB.out.2.2.2.2.1, HB.out.2.2.2.2.2.1, HB.out.2.2.2.2.2.2]; exact hsn)]
      have hsi : ¬ (n4 : Int) = (s : Int) := by omega
      have hsb : ((n4 : Int) == (s : Int)) = false := by rw [beq_eq_false_iff_ne]; exact hsi
      go_wp2
      refine bodyPost_ret (v := .tuple #[.agg #[.int .i64 0, .slice none 0 0], .int .i64 0, .int .i64 13]) (by simp [results, Tryd.results30, go_sem, c0, c1]) rfl ?_
      rw [HT.out]
      exact ⟨rfl, (H3.out.2.2.1.setCell (Nat.le_refl _) _).setCell (Nat.le_refl _) _⟩
end Go.Proofs.YtconcmjmdhdgjaaDoor
