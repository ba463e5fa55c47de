/- The contract of frame.Next where a record can be: the sum is wrong, or the record is returned. -/
import Derived.Test.YtconcmjmdhdgjaaDoorNext
namespace Go.Proofs.YtconcmjmdhdgjaaDoor
open Go.RowKit

set_option maxHeartbeats 4000000 in
theorem next_sumA (b off : Nat) (l : List UInt8) (cap k : Nat) (w : World) (hm : l.length ≤ 140737488355328) (hcap : l.length ≤ cap) (hcm : cap ≤ maxLen) (hcp : k + 8 < cap) (hf : Fours w)
    (hb : BytesAt w (some ⟨b, off, none⟩) l) (hg1 : be4 l k ≤ 65536) (hg2 : k + 8 + be4 l k ≤ l.length) (hbad : decide (crcV (cont l k) = be4 l (k + 4)) = false) :
    Calls Tryd.prog 22 #[.slice (some ⟨b, off, none⟩) l.length cap, .int .i64 (k : Int)] w fun e w' => e = nextNo 13 ∧ Below w.heap.size w w' := by
  obtain ⟨W1, hW1⟩ : ∃ W1, (w.alloc (.cells #[.slice (some ⟨b, off, none⟩) l.length cap] 22)).alloc (.cells #[.int .i64 0, .slice none 0 0] 31) = W1 := ⟨_, rfl⟩
  have hB1 : Below w.heap.size w W1 := by rw [← hW1]; go_grown
  have hc : W1.cell? ⟨w.heap.size, 0, none⟩ = some (.slice (some ⟨b, off, none⟩) l.length cap) := by
    rw [← hW1, cell_blk (blk_alloc (blk_new w _) _)]; rfl
  have hb1 := hb.below hB1
  have HT := Lib.hid (take_at l b off cap w.heap.size k (k : Int) rfl W1 hc (by omega) hcap hcm hb1)
  have HT2 := Lib.hid (take_at l b off cap w.heap.size (k + 4) ((k : Int) + 4) (by omega) W1 hc (by omega) hcap hcm hb1)
  have hlen := cont_len l k hg2
  have HC := Lib.hid (fun (A : Addr) (c : Nat) (hA : BytesAt W1 (some A) (cont l k)) => ccheck_at (some A) (cont l k) c (be4 l (k + 4)) (be4 l k) false W1 hlen (by omega) hA (hf.below hB1) hbad)
  have HA : Hid (BytesAt W1 (some ⟨b, off + (k + 8), none⟩) (cont l k)) := hb1.sub (k + 8) (be4 l k)
  have hn := be4_lt l k
  skip
  rw [← hW1] at HT HT2 HC HA
  unfold maxLen at hcm
  have h6 : ((k : Int) == (l.length : Int)) = false := by simp; omega
  clear hc hB1 hb1 hW1 hf hb hlen hbad
  skip
  obtain ⟨n, hnn⟩ : ∃ n, be4 l k = n := ⟨_, rfl⟩
  skip
  rw [hnn] at HT HC hn hg1 hg2 
  clear hnn
  generalize be4 l (k + 4) = n4 at *
  go_enter Tryd.func22, Tryd.ntmps22
  go_wp2_with (first
    | ((go_at_call 66); (with_reducible refine HT.out.mono ?_); rintro e w' ⟨rfl, rfl⟩)
    | ((go_at_call 66); (with_reducible refine HT2.out.mono ?_); rintro e w' ⟨rfl, rfl⟩)
    | ((go_at_call 67); (with_reducible refine (HC.out _ _ HA.out).mono ?_); rintro e w' ⟨rfl, rfl⟩))
  go_returns
  exact ⟨rfl, by go_grown⟩

set_option maxHeartbeats 4000000 in
theorem next_sumB (b off : Nat) (l : List UInt8) (k : Nat) (w : World) (hm : l.length ≤ 140737488355328) (hcap0 : l.length ≤ k + 8) (hf : Fours w)
    (hb : BytesAt w (some ⟨b, off, none⟩) l) (hg1 : be4 l k ≤ 65536) (hg2 : k + 8 + be4 l k ≤ l.length) (hbad : decide (crcV (cont l k) = be4 l (k + 4)) = false) :
    Calls Tryd.prog 22 #[.slice (some ⟨b, off, none⟩) l.length (k + 8), .int .i64 (k : Int)] w fun e w' => e = nextNo 13 ∧ Below w.heap.size w w' := by
  have hcap : l.length ≤ k + 8 := hcap0
  have hcm : k + 8 ≤ maxLen := by unfold maxLen; omega
  obtain ⟨W1, hW1⟩ : ∃ W1, (w.alloc (.cells #[.slice (some ⟨b, off, none⟩) l.length (k + 8)] 22)).alloc (.cells #[.int .i64 0, .slice none 0 0] 31) = W1 := ⟨_, rfl⟩
  have hB1 : Below w.heap.size w W1 := by rw [← hW1]; go_grown
  have hc : W1.cell? ⟨w.heap.size, 0, none⟩ = some (.slice (some ⟨b, off, none⟩) l.length (k + 8)) := by
    rw [← hW1, cell_blk (blk_alloc (blk_new w _) _)]; rfl
  have hb1 := hb.below hB1
  have HT := Lib.hid (take_at l b off (k + 8) w.heap.size k (k : Int) rfl W1 hc (by omega) hcap hcm hb1)
  have HT2 := Lib.hid (take_at l b off (k + 8) w.heap.size (k + 4) ((k : Int) + 4) (by omega) W1 hc (by omega) hcap hcm hb1)
  have hlen := cont_len l k hg2
  have HC := Lib.hid (fun (A : Addr) (c : Nat) (hA : BytesAt W1 (some A) (cont l k)) => ccheck_at (some A) (cont l k) c (be4 l (k + 4)) (be4 l k) false W1 hlen (by omega) hA (hf.below hB1) hbad)
  have HZ : Hid (∀ A : Addr, be4 l k = 0 → BytesAt W1 (some A) (cont l k)) := fun A h0 => .inl (List.eq_nil_of_length_eq_zero (by rw [hlen, h0]))
  have hn := be4_lt l k
  skip
  rw [← hW1] at HT HT2 HC HZ
  unfold maxLen at hcm
  have h6 : ((k : Int) == (l.length : Int)) = false := by simp; omega
  clear hc hB1 hb1 hW1 hf hb hlen hbad
  skip
  obtain ⟨n, hnn⟩ : ∃ n, be4 l k = n := ⟨_, rfl⟩
  skip
  rw [hnn] at HT HC hn hg1 hg2 HZ
  clear hnn
  generalize be4 l (k + 4) = n4 at *
  go_enter Tryd.func22, Tryd.ntmps22
  go_wp2_with (first
    | ((go_at_call 66); (with_reducible refine HT.out.mono ?_); rintro e w' ⟨rfl, rfl⟩)
    | ((go_at_call 66); (with_reducible refine HT2.out.mono ?_); rintro e w' ⟨rfl, rfl⟩)
    | ((go_at_call 67); (with_reducible refine (HC.out _ _ (HZ.out _ (by omega))).mono ?_); rintro e w' ⟨rfl, rfl⟩))
  go_returns
  exact ⟨rfl, by go_grown⟩

set_option maxHeartbeats 4000000 in
theorem next_yesA (b off : Nat) (l : List UInt8) (cap k : Nat) (w : World) (hm : l.length ≤ 140737488355328) (hcap : l.length ≤ cap) (hcm : cap ≤ maxLen) (hcp : k + 8 < cap) (hf : Fours w)
    (hb : BytesAt w (some ⟨b, off, none⟩) l) (hg1 : be4 l k ≤ 65536) (hg2 : k + 8 + be4 l k ≤ l.length) (hbad : decide (crcV (cont l k) = be4 l (k + 4)) = true) :
    Calls Tryd.prog 22 #[.slice (some ⟨b, off, none⟩) l.length cap, .int .i64 (k : Int)] w (NextYes w l k) := by
  obtain ⟨W1, hW1⟩ : ∃ W1, (w.alloc (.cells #[.slice (some ⟨b, off, none⟩) l.length cap] 22)).alloc (.cells #[.int .i64 0, .slice none 0 0] 31) = W1 := ⟨_, rfl⟩
  have hB1 : Below w.heap.size w W1 := by rw [← hW1]; go_grown
  have hc : W1.cell? ⟨w.heap.size, 0, none⟩ = some (.slice (some ⟨b, off, none⟩) l.length cap) := by
    rw [← hW1, cell_blk (blk_alloc (blk_new w _) _)]; rfl
  have hb1 := hb.below hB1
  have HT := Lib.hid (take_at l b off cap w.heap.size k (k : Int) rfl W1 hc (by omega) hcap hcm hb1)
  have HT2 := Lib.hid (take_at l b off cap w.heap.size (k + 4) ((k : Int) + 4) (by omega) W1 hc (by omega) hcap hcm hb1)
  have hlen := cont_len l k hg2
  have HC := Lib.hid (fun (A : Addr) (c : Nat) (hA : BytesAt W1 (some A) (cont l k)) => ccheck_at (some A) (cont l k) c (be4 l (k + 4)) (be4 l k) true W1 hlen (by omega) hA (hf.below hB1) hbad)
  have HA : Hid (BytesAt W1 (some ⟨b, off + (k + 8), none⟩) (cont l k)) := hb1.sub (k + 8) (be4 l k)
  have HD := Lib.hid (fun (A : Addr) (c : Nat) (hA : BytesAt W1 (some A) (cont l k)) => clone_at A (cont l k) c (be4 l k) W1 hlen (by omega) hA)
  have hn := be4_lt l k
  have HX := Lib.hid (And.intro hB1 hlen)
  rw [← hW1] at HT HT2 HC HA HD HX
  unfold maxLen at hcm
  have h6 : ((k : Int) == (l.length : Int)) = false := by simp; omega
  clear hc hB1 hb1 hW1 hf hb hlen hbad
  have HNN : Hid (be4 l k = be4 l k) := rfl
  obtain ⟨n, hnn⟩ : ∃ n, be4 l k = n := ⟨_, rfl⟩
  have HN := Lib.hid hnn
  rw [hnn] at HT HC hn hg1 hg2  HD HX
  clear hnn HNN
  generalize be4 l (k + 4) = n4 at *
  go_enter Tryd.func22, Tryd.ntmps22
  go_wp2_with (first
    | ((go_at_call 66); (with_reducible refine HT.out.mono ?_); rintro e w' ⟨rfl, rfl⟩)
    | ((go_at_call 66); (with_reducible refine HT2.out.mono ?_); rintro e w' ⟨rfl, rfl⟩)
    | ((go_at_call 67); (with_reducible refine (HC.out _ _ HA.out).mono ?_); rintro e w' ⟨rfl, rfl⟩)
    | ((go_at_call 68); (with_reducible refine (HD.out _ _ HA.out).mono ?_); rintro e w' ⟨g, gc, rfl, hown, hbl⟩; have hblk := blk_below' (blk_new _ _) hbl; have q0 := cell_blk hblk 0; have q1 := cell_blk hblk 1; have q2 := free_blk hblk 0; have q3 := free_blk hblk 1; have hsz := hbl.size; have HO := Lib.hid (And.intro hown (And.intro hbl hblk)); clear hown hbl hblk; simp at hsz q0 q1 q2 q3))
  obtain ⟨hown, hbl, hblk⟩ := HO.out
  have hlen := HX.out.2
  refine bodyPost_ret (v := .tuple #[.agg #[.int .i64 (k : Int), .slice (some ⟨g, 0, none⟩) (cont l k).length gc], .int .i64 ((k : Int) + 8 + n), .int .i64 0]) (by simp [results, Tryd.results22, go_sem, q0, q1]) rfl ?_
  refine ⟨g, gc, ?_, ?_, ?_⟩
  · rw [HN.out, hlen]; rfl
  · have h1 := (hown.mono (B' := w.heap.size) (by simp; omega))
    exact own_other (own_other h1 _ _ (fun e => by have h5 := (own_ge hown e).1; simp at h5; omega)) _ _ (fun e => by have h5 := (own_ge hown e).1; simp at h5; omega)
  · exact ((HX.out.1.trans (hbl.mono HX.out.1.size)).setCell (by simp) _).setCell (by simp) _

set_option maxHeartbeats 4000000 in
theorem next_yesB (b off : Nat) (l : List UInt8) (k : Nat) (w : World) (hm : l.length ≤ 140737488355328) (hcap0 : l.length ≤ k + 8) (hf : Fours w)
    (hb : BytesAt w (some ⟨b, off, none⟩) l) (hg1 : be4 l k ≤ 65536) (hg2 : k + 8 + be4 l k ≤ l.length) (hbad : decide (crcV (cont l k) = be4 l (k + 4)) = true) :
    Calls Tryd.prog 22 #[.slice (some ⟨b, off, none⟩) l.length (k + 8), .int .i64 (k : Int)] w (NextYes w l k) := by
  have hcap : l.length ≤ k + 8 := hcap0
  have hcm : k + 8 ≤ maxLen := by unfold maxLen; omega
  obtain ⟨W1, hW1⟩ : ∃ W1, (w.alloc (.cells #[.slice (some ⟨b, off, none⟩) l.length (k + 8)] 22)).alloc (.cells #[.int .i64 0, .slice none 0 0] 31) = W1 := ⟨_, rfl⟩
  have hB1 : Below w.heap.size w W1 := by rw [← hW1]; go_grown
  have hc : W1.cell? ⟨w.heap.size, 0, none⟩ = some (.slice (some ⟨b, off, none⟩) l.length (k + 8)) := by
    rw [← hW1, cell_blk (blk_alloc (blk_new w _) _)]; rfl
  have hb1 := hb.below hB1
  have HT := Lib.hid (take_at l b off (k + 8) w.heap.size k (k : Int) rfl W1 hc (by omega) hcap hcm hb1)
  have HT2 := Lib.hid (take_at l b off (k + 8) w.heap.size (k + 4) ((k : Int) + 4) (by omega) W1 hc (by omega) hcap hcm hb1)
  have hlen := cont_len l k hg2
  have HC := Lib.hid (fun (A : Addr) (c : Nat) (hA : BytesAt W1 (some A) (cont l k)) => ccheck_at (some A) (cont l k) c (be4 l (k + 4)) (be4 l k) true W1 hlen (by omega) hA (hf.below hB1) hbad)
  have HZ : Hid (∀ A : Addr, be4 l k = 0 → BytesAt W1 (some A) (cont l k)) := fun A h0 => .inl (List.eq_nil_of_length_eq_zero (by rw [hlen, h0]))
  have HD := Lib.hid (fun (A : Addr) (c : Nat) (hA : BytesAt W1 (some A) (cont l k)) => clone_at A (cont l k) c (be4 l k) W1 hlen (by omega) hA)
  have hn := be4_lt l k
  have HX := Lib.hid (And.intro hB1 hlen)
  rw [← hW1] at HT HT2 HC HZ HD HX
  unfold maxLen at hcm
  have h6 : ((k : Int) == (l.length : Int)) = false := by simp; omega
  clear hc hB1 hb1 hW1 hf hb hlen hbad
  have HNN : Hid (be4 l k = be4 l k) := rfl
  obtain ⟨n, hnn⟩ : ∃ n, be4 l k = n := ⟨_, rfl⟩
  have HN := Lib.hid hnn
  rw [hnn] at HT HC hn hg1 hg2 HZ HD HX
  clear hnn HNN
  generalize be4 l (k + 4) = n4 at *
  go_enter Tryd.func22, Tryd.ntmps22
  go_wp2_with (first
    | ((go_at_call 66); (with_reducible refine HT.out.mono ?_); rintro e w' ⟨rfl, rfl⟩)
    | ((go_at_call 66); (with_reducible refine HT2.out.mono ?_); rintro e w' ⟨rfl, rfl⟩)
    | ((go_at_call 67); (with_reducible refine (HC.out _ _ (HZ.out _ (by omega))).mono ?_); rintro e w' ⟨rfl, rfl⟩)
    | ((go_at_call 68); (with_reducible refine (HD.out _ _ (HZ.out _ (by omega))).mono ?_); rintro e w' ⟨g, gc, rfl, hown, hbl⟩; have hblk := blk_below' (blk_new _ _) hbl; have q0 := cell_blk hblk 0; have q1 := cell_blk hblk 1; have q2 := free_blk hblk 0; have q3 := free_blk hblk 1; have hsz := hbl.size; have HO := Lib.hid (And.intro hown (And.intro hbl hblk)); clear hown hbl hblk; simp at hsz q0 q1 q2 q3))
  obtain ⟨hown, hbl, hblk⟩ := HO.out
  have hlen := HX.out.2
  refine bodyPost_ret (v := .tuple #[.agg #[.int .i64 (k : Int), .slice (some ⟨g, 0, none⟩) (cont l k).length gc], .int .i64 ((k : Int) + 8 + n), .int .i64 0]) (by simp [results, Tryd.results22, go_sem, q0, q1]) rfl ?_
  refine ⟨g, gc, ?_, ?_, ?_⟩
  · rw [HN.out, hlen]; rfl
  · have h1 := (hown.mono (B' := w.heap.size) (by simp; omega))
    exact own_other (own_other h1 _ _ (fun e => by have h5 := (own_ge hown e).1; simp at h5; omega)) _ _ (fun e => by have h5 := (own_ge hown e).1; simp at h5; omega)
  · exact ((HX.out.1.trans (hbl.mono HX.out.1.size)).setCell (by simp) _).setCell (by simp) _


end Go.Proofs.YtconcmjmdhdgjaaDoor
