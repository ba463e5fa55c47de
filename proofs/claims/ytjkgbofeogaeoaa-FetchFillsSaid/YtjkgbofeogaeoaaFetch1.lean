/- The contracts of fetch that read alone: made, count, Need, State, Rounds. -/
import Derived.Test.YtjkgbofeogaeoaaDeadL
namespace Go.Proofs.Ytjkgbofeogaeoaa
open Go.RowKit Go.Shelf

def pv (p : Option Addr) : Value := .pointer p
/-- Whether the pointers of a list lead to logs. -/
def Good (w : World) (ps : List (Option Addr × Bool)) : Prop := ∀ p ∈ ps, if p.2 then ∃ D b n s, p.1 = some ⟨D, 0, none⟩ ∧ LogAt w D b n s else DL w p.1
theorem Good.below {w w' : World} {ps : List (Option Addr × Bool)} (h : Good w ps) (hb : Below w.heap.size w w') : Good w' ps := fun p hp => by
  have := h p hp
  split
  · rename_i e
    rw [if_pos e] at this
    obtain ⟨D, b, n, s, h1, h2⟩ := this
    exact ⟨D, b, n, s, h1, h2.below hb⟩
  · rename_i e
    rw [if_neg e] at this
    exact this.below hb
theorem pred_any {w : World} {ps : List (Option Addr × Bool)} (h : Good w ps) (p : Option Addr × Bool) (hp : p ∈ ps) : Calls Try.prog 109 #[.pointer p.1] w fun e w' => e = .returned (.bool (!p.2)) ∧ Below w.heap.size w w' := by
  have h1 := h p hp
  obtain ⟨A, g⟩ := p
  cases g with
  | true =>
    obtain ⟨D, b, n, s, rfl, hl⟩ := h1
    have HC := Lib.hid (copy_any hl)
    clear h hp hl
    go_enter Try.func109, Try.ntmps109
    go_wp2_with (go_at_call 44; refine HC.out.mono ?_; rintro e w1 ⟨D', b', rfl, -, hb, -⟩; have H1 := Lib.hid hb; clear hb)
    go_ret
    exact ⟨rfl, H1.out⟩
  | false =>
    have HC := Lib.hid (dead_copy (show DL w A from h1))
    clear h1 h hp
    go_enter Try.func109, Try.ntmps109
    go_wp2_with (go_at_call 44; refine HC.out.mono ?_; rintro e w' ⟨rfl, rfl⟩)
    go_ret
    exact ⟨rfl, Below.refl _ _⟩
/-- Where the first pointer stands that leads to no log. -/
def IdxTo (w : World) (ps : List (Option Addr × Bool)) (e : Ending) (w' : World) : Prop := ∃ r : Int, e = .returned (.int .i64 r) ∧ (0 ≤ r ↔ ps.any (fun p => !p.2) = true) ∧ Below w.heap.size w w'
set_option maxRecDepth 20000 in
set_option maxHeartbeats 1000000 in
theorem idx_any {w : World} {ps : List (Option Addr × Bool)} {A : Option Addr} {n C : Nat} (hg : Good w ps) (hv : EV pv w A n C (ps.map (·.1))) : Calls Try.prog 113 #[.slice A n C, .func (.func 109) #[] #[]] w (IdxTo w ps) := by
  have hn9 : n ≤ 9223372036854775807 := Nat.le_trans hv.le hv.max
  have hlen := hv.len
  rw [List.length_map] at hlen
  have HV := Lib.hid (And.intro hv (And.intro hg hlen))
  clear hv hg hlen
  go_enter Try.func113, Try.ntmps113
  go_wp2_with fail
  go_loopw [8] (fun i wr => ∃ k : Nat, k ≤ n ∧ i = .int .i64 (k : Int) ∧ Below w.heap.size w wr ∧ (ps.take k).any (fun p => !p.2) = false) (fun i _ => n - (intOf i).toNat)
  case atStart => exact ⟨0, Nat.zero_le _, rfl, Below.refl _ _, rfl⟩
  case round =>
    obtain ⟨k, hk, rfl, hb, hno⟩ := hrel
    have HB := Lib.hid (And.intro hb hno)
    clear hb hno
    by_cases hlt : k < n
    · obtain ⟨p, hp⟩ : ∃ p, ps[k]? = some p := ⟨_, List.getElem?_eq_getElem (by rw [HV.out.2.2]; exact hlt)⟩
      obtain ⟨gb, go, rfl, c0⟩ := (HV.out.1.below HB.out.1).cells k p.1 (by rw [List.getElem?_map, hp]; rfl)
      unfold pv at c0
      have htk : ps.take (k + 1) = ps.take k ++ [p] := by rw [List.take_add_one, hp]; rfl
      have HP := Lib.hid (And.intro (pred_any (HV.out.2.1.below HB.out.1) p (List.mem_of_getElem? hp)) (And.intro htk (List.mem_of_getElem? hp)))
      have hki : (k : Int) < (n : Int) := by omega
      obtain ⟨A, g⟩ := p
      clear hp htk
      cases g with
      | true =>
        go_wp2_with (go_at_call 109; refine HP.out.1.mono ?_; rintro e w1 ⟨rfl, hb1⟩; have H1 := Lib.hid (belowStep HB.out.1 hb1); clear hb1)
        go_roundw
        case rel => exact ⟨k + 1, hlt, by go_num, H1.out, by rw [HP.out.2.1, List.any_append, HB.out.2]; rfl⟩
        case measure => simp [intOf]; omega
      | false =>
        go_wp2_with (go_at_call 109; refine HP.out.1.mono ?_; rintro e w1 ⟨rfl, hb1⟩; have H1 := Lib.hid (belowStep HB.out.1 hb1); clear hb1)
        go_ret
        exact ⟨(k : Int), rfl, ⟨fun _ => List.any_eq_true.2 ⟨_, HP.out.2.2, rfl⟩, fun _ => by omega⟩, H1.out⟩
    · obtain rfl : k = n := by omega
      go_wp2
      go_ret
      refine ⟨-1, rfl, ⟨fun h => by omega, fun h => ?_⟩, HB.out.1⟩
      have := HB.out.2
      rw [List.take_of_length_le (by rw [HV.out.2.2]; exact Nat.le_refl _)] at this
      rw [this] at h; cases h
theorem contains_any {w : World} {ps : List (Option Addr × Bool)} {A : Option Addr} {n C : Nat} (hg : Good w ps) (hv : EV pv w A n C (ps.map (·.1))) : Calls Try.prog 108 #[.slice A n C, .func (.func 109) #[] #[]] w fun e w' => e = .returned (.bool (ps.any (fun p => !p.2))) ∧ Below w.heap.size w w' := by
  have HI := Lib.hid (idx_any hg hv)
  clear hg hv
  obtain ⟨c, hc⟩ : ∃ c, ps.any (fun p => !p.2) = c := ⟨_, rfl⟩
  rw [hc]
  have HC := Lib.hid hc
  clear hc
  go_enter Try.func108, Try.ntmps108
  go_wp2_with fail
  refine HI.out.mono ?_
  rintro e w1 ⟨r, rfl, hr, hb1⟩
  rw [HC.out] at hr
  have H1 := Lib.hid hb1
  cases c with
  | true =>
    have h0 : 0 ≤ r := hr.2 rfl
    clear hr hb1
    go_wp2
    go_ret
    exact ⟨by simp, H1.out⟩
  | false =>
    have h0 : r < 0 := by rcases Classical.em (0 ≤ r) with h | h; exact absurd (hr.1 h) (by decide); omega
    clear hr hb1
    go_wp2
    go_ret
    exact ⟨by simp <;> omega, H1.out⟩
/-- made: whether all are logs. -/
theorem made_all {w : World} {ps : List (Option Addr × Bool)} {A : Option Addr} {n C : Nat} (hg : Good w ps) (hv : EV pv w A n C (ps.map (·.1))) : Calls Try.prog 91 #[.slice A n C] w fun e w' => e = .returned (.bool (!ps.any (fun p => !p.2))) ∧ Below w.heap.size w w' := by
  have HI := Lib.hid (contains_any hg hv)
  clear hg hv
  obtain ⟨c, hc⟩ : ∃ c, ps.any (fun p => !p.2) = c := ⟨_, rfl⟩
  rw [hc] at HI ⊢
  clear hc
  go_enter Try.func91, Try.ntmps91
  go_wp2_with (go_at_call 108; refine HI.out.mono ?_; rintro e w1 ⟨rfl, hb1⟩; have H1 := Lib.hid hb1; clear hb1)
  go_ret
  exact ⟨rfl, H1.out⟩
def cntB (x : Int) : Bool := decide (0 ≤ x ∧ x ≤ 4096)
theorem count_yes (x : Int) (w : World) (h0 : 0 ≤ x) (h4 : x ≤ 4096) : Calls Try.prog 92 #[.int .i64 x] w fun e w' => e = .returned (.bool true) ∧ w = w' := by
  go_enter Try.func92, Try.ntmps92
  go_wp2
  go_ret
  exact ⟨rfl, rfl⟩
theorem count_no (x : Int) (w : World) (h : x < 0 ∨ 4096 < x) : Calls Try.prog 92 #[.int .i64 x] w fun e w' => e = .returned (.bool false) ∧ w = w' := by
  rcases h with h | h
  · have h0 : ¬ 0 ≤ x := by omega
    go_enter Try.func92, Try.ntmps92
    go_wp2
    go_ret
    exact ⟨rfl, rfl⟩
  · have h0 : 0 ≤ x := by omega
    have h4 : ¬ x ≤ 4096 := by omega
    go_enter Try.func92, Try.ntmps92
    go_wp2
    go_ret
    exact ⟨rfl, rfl⟩
theorem count_any (x : Int) (w : World) : Calls Try.prog 92 #[.int .i64 x] w fun e w' => e = .returned (.bool (cntB x)) ∧ w = w' := by
  by_cases h : 0 ≤ x ∧ x ≤ 4096
  · have : cntB x = true := by unfold cntB; simp [h]
    rw [this]; exact count_yes x w h.1 h.2
  · have : cntB x = false := by unfold cntB; simp; omega
    rw [this]; exact count_no x w (by omega)
/-- What Rounds returns. -/
def roundsR (b m : Int) : Int × Int := if cntB b = true ∧ 1 ≤ m ∧ cntB m = true then ((b + m - 1) / m, 0) else (0, 2)
theorem cntB_yes {x : Int} (h : cntB x = true) : 0 ≤ x ∧ x ≤ 4096 := by unfold cntB at h; simpa using h
theorem cntB_no {x : Int} (h : cntB x = false) : x < 0 ∨ 4096 < x := by unfold cntB at h; simp at h; omega
set_option maxRecDepth 20000 in
theorem rounds_any (b m : Int) (w : World) : Calls Try.prog 55 #[.int .i64 b, .int .i64 m] w fun e w' => e = .returned (.tuple #[.int .i64 (roundsR b m).1, .int .i64 (roundsR b m).2]) ∧ w = w' := by
  cases hb : cntB b with
  | false =>
    have hr : roundsR b m = (0, 2) := by unfold roundsR; rw [if_neg (by simp [hb])]
    rw [hr]
    have HC := Lib.hid (count_no b w (cntB_no hb))
    clear hb hr
    go_enter Try.func55, Try.ntmps55
    go_wp2_with (go_at_call 92; refine HC.out.mono ?_; rintro e w' ⟨rfl, rfl⟩)
    go_ret2
    exact ⟨rfl, rfl⟩
  | true =>
    have hb4 := cntB_yes hb
    have HC := Lib.hid (count_yes b w hb4.1 hb4.2)
    by_cases h1 : m < 1
    · have hr : roundsR b m = (0, 2) := by unfold roundsR; rw [if_neg (by omega)]
      rw [hr]
      clear hb hr
      go_enter Try.func55, Try.ntmps55
      go_wp2_with (go_at_call 92; refine HC.out.mono ?_; rintro e w' ⟨rfl, rfl⟩)
      go_ret2
      exact ⟨rfl, rfl⟩
    · by_cases h4 : m ≤ 4096
      · have hr : roundsR b m = ((b + m - 1) / m, 0) := by unfold roundsR; rw [if_pos ⟨hb, by omega, by unfold cntB; simp; omega⟩]
        rw [hr]
        have HM := Lib.hid (count_yes m w (by omega) h4)
        obtain ⟨q, hq⟩ : ∃ q, (b + m - 1) / m = q := ⟨_, rfl⟩
        have hq2 : (b + m - 1).tdiv m = q := by rw [Int.tdiv_eq_ediv_of_nonneg (by omega)]; exact hq
        have hq0 : 0 ≤ q := by rw [← hq]; exact Int.ediv_nonneg (by omega) (by omega)
        have hq1 : q ≤ 9000 := by rw [← hq]; exact Int.le_trans (Int.ediv_le_self _ (by omega)) (by omega)
        have hm0 : ¬ m = 0 := by omega
        have hm0b : (m == 0) = false := by simp; omega
        rw [hq]
        obtain ⟨hb0, hb1⟩ := hb4
        have h1' : 1 ≤ m := by omega
        clear hb hr h1
        go_enter Try.func55, Try.ntmps55
        go_wp2_with (first
          | (go_at_call_of 92 b; refine HC.out.mono ?_; rintro e w' ⟨rfl, rfl⟩)
          | (go_at_call 92; refine HM.out.mono ?_; rintro e w' ⟨rfl, rfl⟩))
        go_ret2
        exact ⟨rfl, rfl⟩
      · have hr : roundsR b m = (0, 2) := by unfold roundsR; rw [if_neg (fun h => h4 (cntB_yes h.2.2).2)]
        rw [hr]
        have HM := Lib.hid (count_no m w (.inr (by omega)))
        clear hb hr
        go_enter Try.func55, Try.ntmps55
        go_wp2_with (first
          | (go_at_call_of 92 b; refine HC.out.mono ?_; rintro e w' ⟨rfl, rfl⟩)
          | (go_at_call 92; refine HM.out.mono ?_; rintro e w' ⟨rfl, rfl⟩))
        go_ret2
        exact ⟨rfl, rfl⟩
/-- A message as a value. -/
def msgV (k s n : Int) (v : ByteArray) : Value := .agg #[.int .i64 k, .int .i64 0, .int .i64 0, .int .i64 0, .int .i64 0, .int .i64 s, .int .i64 n, .string v, .slice none 0 0]
/-- What State returns. -/
def stateE (u : Int) (v : ByteArray) : Int := if cntB u = false then 2 else if 65536 < v.size then 11 else 0
def stateV (u : Int) (v : ByteArray) : Value := if stateE u v = 0 then msgV 9 0 u v else msgV 0 0 0 ⟨#[]⟩
set_option maxRecDepth 20000 in
theorem state_any (u : Int) (v : ByteArray) (w : World) (hv : v.size ≤ 9223372036854775807) : Calls Try.prog 53 #[.int .i64 u, .string v] w fun e w' => e = .returned (.tuple #[stateV u v, .int .i64 (stateE u v)]) ∧ Below w.heap.size w w' := by
  have hb0 : Below w.heap.size w (w.alloc (.cells #[.int .i64 0, .int .i64 0, .int .i64 0, .int .i64 0, .int .i64 0, .int .i64 0, .int .i64 0, .string ⟨#[]⟩, .slice none 0 0] 74)) := (Below.refl _ _).alloc (Nat.le_refl _) _
  have HC := Lib.hid (fun W => count_any u W)
  cases hc : cntB u with
  | false =>
    have h1 : stateE u v = 2 := by unfold stateE; rw [if_pos hc]
    have h2 : stateV u v = msgV 0 0 0 ⟨#[]⟩ := by unfold stateV; rw [h1]; rfl
    rw [h1, h2]
    rw [hc] at HC
    have HB := Lib.hid hb0
    clear h1 h2 hc hb0
    go_enter Try.func53, Try.ntmps53
    go_wp2_with (go_at_call 92; refine (HC.out _).mono ?_; rintro e w' ⟨rfl, rfl⟩)
    refine bodyPost_ret (v := .tuple #[msgV 0 0 0 ⟨#[]⟩, .int .i64 2]) (by simp [msgV, results, Try.results53, go_sem]) rfl ⟨rfl, ?_⟩
    have hb := HB.out
    repeat refine Below.setCell ?_ (by simp) _
    exact hb
  | true =>
    rw [hc] at HC
    by_cases hl : 65536 < v.size
    · have h1 : stateE u v = 11 := by unfold stateE; rw [if_neg (by simp [hc]), if_pos hl]
      have h2 : stateV u v = msgV 0 0 0 ⟨#[]⟩ := by unfold stateV; rw [h1]; rfl
      rw [h1, h2]
      have HB := Lib.hid hb0
      clear h1 h2 hc hb0
      go_enter Try.func53, Try.ntmps53
      go_wp2_with (go_at_call 92; refine (HC.out _).mono ?_; rintro e w' ⟨rfl, rfl⟩)
      refine bodyPost_ret (v := .tuple #[msgV 0 0 0 ⟨#[]⟩, .int .i64 11]) (by simp [msgV, results, Try.results53, go_sem]) rfl ⟨rfl, ?_⟩
      have hb := HB.out
      repeat refine Below.setCell ?_ (by simp) _
      exact hb
    · have h1 : stateE u v = 0 := by unfold stateE; rw [if_neg (by simp [hc]), if_neg hl]
      have h2 : stateV u v = msgV 9 0 u v := by unfold stateV; rw [h1]; rfl
      rw [h1, h2]
      have HB := Lib.hid hb0
      clear h1 h2 hc hb0
      go_enter Try.func53, Try.ntmps53
      go_wp2_with (go_at_call 92; refine (HC.out _).mono ?_; rintro e w' ⟨rfl, rfl⟩)
      refine bodyPost_ret (v := .tuple #[msgV 9 0 u v, .int .i64 0]) (by simp [msgV, results, Try.results53, go_sem]) rfl ⟨rfl, ?_⟩
      go_grown
end Go.Proofs.Ytjkgbofeogaeoaa
