/- Contract of rat.Check: for every colony it answers what checkC says. Contract of the reference's Check: for every colony it answers what checkC says. -/
import Derived.Test.YtnhifinfjfpoiaaJ01
import Derived.StillTailTactics
namespace Go.Proofs.Ytnhifinfjfpoiaa
open Go.RowKit
set_option linter.unusedVariables false

theorem check1_any (a : Option Addr) (n cap m bx : Nat) (w : World) (hn : n ≤ 140737488355328) (hc : w.cell? ⟨bx, 0, none⟩ = some (.int .i64 m)) :
    Calls Try.prog 80 #[.slice a n cap, .pointer (some ⟨bx, 0, none⟩)] w fun e w' => e = .returned (.bool ((n : Int) == (m : Int))) ∧ w = w' := by
  go_enter Try.func80, Try.ntmps80
  go_wp2
  go_ret
  exact ⟨rfl, rfl⟩
theorem check2_any (n : Int) (w : World) : Calls Try.prog 82 #[.int .i64 n] w fun e w' => e = .returned (.bool (inB n 0 60)) ∧ w = w' := by
  go_enter Try.func82, Try.ntmps82
  go_wp2_with (go_at_call 78; refine (in_any _ _ _ _).mono ?_; rintro e w' ⟨rfl, rfl⟩)
  go_ret
  exact ⟨rfl, rfl⟩
theorem check3_any (n : Int) (w : World) : Calls Try.prog 83 #[.int .i64 n] w fun e w' => e = .returned (.bool (inB n 0 9)) ∧ w = w' := by
  go_enter Try.func83, Try.ntmps83
  go_wp2_with (go_at_call 78; refine (in_any _ _ _ _).mono ?_; rintro e w' ⟨rfl, rfl⟩)
  go_ret
  exact ⟨rfl, rfl⟩
theorem check4_any (x y : Int) (m bx : Nat) (w : World) (hm : m ≤ 140737488355328) (hc : w.cell? ⟨bx, 0, none⟩ = some (.int .i64 m)) :
    Calls Try.prog 85 #[.agg #[.int .i64 x, .int .i64 y], .pointer (some ⟨bx, 0, none⟩)] w fun e w' => e = .returned (.bool (inB x 0 (m - 1) && inB y 0 (m - 1))) ∧ Below w.heap.size w w' := by
  have hB : Below w.heap.size w (w.alloc (.cells #[.int .i64 x, .int .i64 y] 63)) := (Below.refl _ _).alloc (Nat.le_refl _) _
  have hb' : (w.alloc (.cells #[.int .i64 x, .int .i64 y] 63)).cell? ⟨bx, 0, none⟩ = some (.int .i64 m) := (hB.cell (p := ⟨bx, 0, none⟩) (block_lt_of_cell hc)).trans hc
  clear hc
  cases h1 : inB x 0 (m - 1)
  all_goals
    go_enter Try.func85, Try.ntmps85
    go_wp2_with (go_at_call 78; refine (in_any _ _ _ _).mono ?_; rintro e w' ⟨rfl, rfl⟩)
    go_ret
    exact ⟨ret_bool (by simp), hB⟩

theorem check_boxes {w w1 : World} {r t u n : Value} {m : Int} (hb : Below (w.heap.size + 2) ((w.alloc (.cells #[r, t, u, n] 26)).alloc (.cells #[.int .i64 m] 3)) w1) :
    w1.cell? ⟨w.heap.size, 0, none⟩ = some r ∧ w1.cell? ⟨w.heap.size, 1, none⟩ = some t ∧ w1.cell? ⟨w.heap.size, 2, none⟩ = some u ∧ w1.cell? ⟨w.heap.size, 3, none⟩ = some n ∧ w1.cell? ⟨w.heap.size + 1, 0, none⟩ = some (.int .i64 m) := by
  refine ⟨(hb.cell (p := ⟨_, _, none⟩) (by simp)).trans ?_, (hb.cell (p := ⟨_, _, none⟩) (by simp)).trans ?_, (hb.cell (p := ⟨_, _, none⟩) (by simp)).trans ?_, (hb.cell (p := ⟨_, _, none⟩) (by simp)).trans ?_, (hb.cell (p := ⟨_, _, none⟩) (by simp)).trans ?_⟩ <;> simp [go_sem]

/-- The errors that are seen ahead of the lists. -/
theorem check_count1 (c : Col) (r t u n : Value) (w : World) (h : ColAt w w.heap.size r t u n c) (hbad : badCount1 c = true) :
    Calls Try.prog 20 #[.agg #[r, t, u, n]] w fun e w' => e = .returned (.int .i64 (checkC c)) ∧ Below w.heap.size w w' := by
  have e : checkC c = 3 := by unfold checkC; rw [if_pos hbad]
  rw [e]; clear e
  obtain ⟨hr, ht, hu, hn⟩ := h
  obtain ⟨ar, cr, rfl, r1, r2, _⟩ := hr.open
  obtain ⟨at_, ct, rfl, t1, t2, _⟩ := ht.open
  obtain ⟨au, cu, rfl, u1, u2, _⟩ := hu.open
  obtain ⟨an, cn, rfl, n1, n2, _⟩ := hn.open
  have hB : ∀ o o', Below w.heap.size w ((w.alloc o).alloc o') := fun o o' => ((Below.refl _ _).alloc (Nat.le_refl _) _).alloc (by simp) _
  have HB := Lib.hid hB; clear hB hr ht hu hn
  cases h1 : inB c.rooms.length 1 6
  · clear hbad
    go_enter Try.func20, Try.ntmps20
    go_wp2_with (go_at_call 78; refine (in_any _ _ _ _).mono ?_; rintro e w' ⟨rfl, rfl⟩)
    go_ret
    exact ⟨rfl, HB.out _ _⟩
  have h1' := inB_true h1
  by_cases h2 : c.traps.length = c.rooms.length
  · have h2a : c.traps.length ≤ c.rooms.length := by omega
    have h2b : c.rooms.length ≤ c.traps.length := by omega
    by_cases h3 : 12 < c.runs.length
    · clear hbad h2
      go_enter Try.func20, Try.ntmps20
      go_wp2_with (go_at_call 78; refine (in_any _ _ _ _).mono ?_; rintro e w' ⟨rfl, rfl⟩)
      go_ret
      exact ⟨rfl, HB.out _ _⟩
    · have h4 : 6 < c.nights.length := by simpa [badCount1, h1, h2, h3] using hbad
      clear hbad h2
      go_enter Try.func20, Try.ntmps20
      go_wp2_with (go_at_call 78; refine (in_any _ _ _ _).mono ?_; rintro e w' ⟨rfl, rfl⟩)
      go_ret
      exact ⟨rfl, HB.out _ _⟩
  · clear hbad
    go_enter Try.func20, Try.ntmps20
    go_wp2_with (go_at_call 78; refine (in_any _ _ _ _).mono ?_; rintro e w' ⟨rfl, rfl⟩)
    go_ret
    exact ⟨rfl, HB.out _ _⟩

theorem pcell_even (ps : List (Int × Int)) (i : Nat) : pcell ps (i * 2) = .int .i64 (nthP ps i).1 := by simp [pcell]
theorem pcell_odd (ps : List (Int × Int)) (i : Nat) : pcell ps (i * 2 + 1) = .int .i64 (nthP ps i).2 := by
  have a1 : (i * 2 + 1) % 2 = 1 := by omega
  have a2 : (i * 2 + 1) / 2 = i := by omega
  simp [pcell, a1, a2]
def pairOf (p : Int × Int) : Int × Int := (min p.1 p.2, max p.1 p.2)
theorem pairOf_iff (p q : Int × Int) : (pairOf p == pairOf q) = joinsB p q.1 q.2 := by
  obtain ⟨a, b⟩ := p
  obtain ⟨x, y⟩ := q
  rw [Bool.eq_iff_iff]
  simp [pairOf, joinsB]
  omega
def metC (c : Col) (k : Nat) (q : Int × Int) : Bool := (List.range k).any fun j => pairOf (nthP c.runs j) == q
theorem metC_succ (c : Col) (k : Nat) (q : Int × Int) : metC c (k + 1) q = (q == pairOf (nthP c.runs k) || metC c k q) := by
  unfold metC
  rw [List.range_succ, List.any_append, Bool.or_comm]
  simp [Bool.beq_comm]
theorem okTwice_eq (c : Col) (k : Nat) (h : ((nthP c.runs k).1 == (nthP c.runs k).2) = false) : okTwice c k = !metC c k (pairOf (nthP c.runs k)) := by
  unfold okTwice
  have : ((nthP c.runs k).1 != (nthP c.runs k).2) = true := by simp [bne, h]
  rw [this, Bool.true_and]
  unfold allB anyB metC
  simp only [Bool.not_not, pairOf_iff]

set_option maxHeartbeats 4000000 in
theorem check_rest (c : Col) (r t u n : Value) (w : World) (h : ColAt w w.heap.size r t u n c) (hgood : badCount1 c = false) :
    Calls Try.prog 20 #[.agg #[r, t, u, n]] w fun e w' => e = .returned (.int .i64 (checkC c)) ∧ Below w.heap.size w w' := by
  have E1 : checkC c = if badCount2 c then 3 else if badRooms c || badTraps c then 4 else if badNights c then 4 else if badRuns c then 2 else if badTwice c then 5 else 0 := by unfold checkC; rw [if_neg (by rw [hgood]; simp)]
  have HE := Lib.hid E1; clear E1
  obtain ⟨h1, h2, h3, h4⟩ : inB c.rooms.length 1 6 = true ∧ c.traps.length = c.rooms.length ∧ c.runs.length ≤ 12 ∧ c.nights.length ≤ 6 := by
    simpa only [badCount1, Bool.or_eq_false_iff, Bool.not_eq_false', bne_eq_false_iff_eq, decide_eq_false_iff_not, Nat.not_lt, and_assoc] using hgood
  clear hgood
  have h1' := inB_true h1
  have h2a : c.traps.length ≤ c.rooms.length := by omega
  have h2b : c.rooms.length ≤ c.traps.length := by omega
  clear h2
  obtain ⟨hr, ht, hu, hn⟩ := h
  obtain ⟨ar, cr, rfl, r1, r2, r3⟩ := hr.open
  obtain ⟨at_, ct, rfl, t1, t2, t3⟩ := ht.open
  obtain ⟨au, cu, rfl, u1, u2, u3⟩ := hu.open
  obtain ⟨an, cn, rfl, n1, n2, n3⟩ := hn.open
  have R3 := Lib.hid r3; have T3 := Lib.hid t3; have U3 := Lib.hid u3; have N3 := Lib.hid n3; clear r3 t3 u3 n3
  obtain ⟨fN, hsN, hrN⟩ := hn
  have HN := Lib.hid hsN; have HRN := Lib.hid hrN; have HR := Lib.hid hr; have HT := Lib.hid ht; have HU := Lib.hid hu
  have hBW := ((Below.refl w.heap.size w).alloc (Nat.le_refl _) (.cells #[.slice ar c.rooms.length cr, .slice at_ c.traps.length ct, .slice au c.runs.length cu, .slice an c.nights.length cn] 26)).alloc (by simp) (.cells #[.int .i64 c.rooms.length] 3)
  have HB := Lib.hid hBW
  have HC1 := Lib.hid (everyRows_any (.slice an c.nights.length cn) c.nights.length 80 #[.pointer (some ⟨w.heap.size + 1, 0, none⟩)] (okRow c) fN _ ((hsN.below hBW (Nat.le_refl _)).mono (by simp only [World.size_alloc]; omega)) (by
    refine ⟨Try.call80, fun i hi w' hw' hB => ?_⟩
    have hbx : w'.cell? ⟨w.heap.size + 1, 0, none⟩ = some (.int .i64 c.rooms.length) := (hw'.cell (p := ⟨w.heap.size + 1, 0, none⟩) (by simp)).trans (by simp [go_sem])
    obtain ⟨a, cap, hv, q1, q2, _⟩ := (hrN i hi).open
    show Calls _ _ (#[fN i] ++ _) _ _
    rw [hv]
    refine (check1_any a _ cap c.rooms.length (w.heap.size + 1) w' q2 hbx).mono ?_
    rintro e w'' ⟨rfl, rfl⟩
    exact ⟨ret_bool (by unfold okRow; rw [Bool.eq_iff_iff]; simp; omega), Below.refl _ _⟩))
  clear hsN hrN hr ht hu hBW
  go_enter Try.func20, Try.ntmps20
  go_wp2_with (first | (go_at_call 78; refine (in_any _ _ _ _).mono ?_; rintro e w' ⟨rfl, rfl⟩) | fail)
  refine HC1.out.mono ?_
  rintro e w1 ⟨rfl, hb1⟩
  clear HC1
  simp only [World.size_alloc] at hb1
  obtain ⟨c0, c1, c2, c3, c4⟩ := check_boxes hb1
  have HB1 := Lib.hid hb1; clear hb1
  cases g1 : allB (okRow c) c.nights.length
  · go_wp2_with fail
    go_ret
    exact ⟨ret_int (by rw [HE.out, if_pos (by unfold badCount2; rw [g1]; rfl)]), HB.out.trans (HB1.out.mono (by omega))⟩
  go_wp2_with fail
  have q1 := (everyInts_any (.slice ar c.rooms.length cr) c.rooms.length 82 #[] (fun i => inB (nth c.rooms i) 0 60) (fun j => .int .i64 (nth c.rooms j)) w1 ((HR.out.1.below (HB.out.trans (HB1.out.mono (by omega))) (Nat.le_refl _)).mono (by have := HB1.out.size; simp at this; omega)) ⟨Try.call82, fun i hi w' hw' hB => (check2_any _ w').mono (by rintro e w'' ⟨rfl, rfl⟩; exact ⟨rfl, Below.refl _ _⟩)⟩)
  refine q1.mono ?_
  clear q1
  rintro e w2 ⟨rfl, hb2⟩
  have hb2' := HB1.out.trans (hb2.mono (by have := HB1.out.size; simp at this; omega))
  clear c0 c1 c2 c3 c4
  obtain ⟨c0, c1, c2, c3, c4⟩ := check_boxes hb2'
  have HB2 := Lib.hid hb2'; clear hb2' hb2 HB1
  cases g2 : allB (fun i => inB (nth c.rooms i) 0 60) c.rooms.length
  · go_wp2_with fail
    go_ret
    exact ⟨ret_int (by rw [HE.out, if_neg (by unfold badCount2; rw [g1]; simp), if_pos (by unfold badRooms; rw [g2]; rfl)]), HB.out.trans (HB2.out.mono (by omega))⟩
  go_wp2_with fail
  have q2 := (everyInts_any (.slice at_ c.traps.length ct) c.traps.length 83 #[] (fun i => inB (nth c.traps i) 0 9) (fun j => .int .i64 (nth c.traps j)) w2 ((HT.out.1.below (HB.out.trans (HB2.out.mono (by omega))) (Nat.le_refl _)).mono (by have := HB2.out.size; simp at this; omega)) ⟨Try.call83, fun i hi w' hw' hB => (check3_any _ w').mono (by rintro e w'' ⟨rfl, rfl⟩; exact ⟨rfl, Below.refl _ _⟩)⟩)
  refine q2.mono ?_
  clear q2
  rintro e w3 ⟨rfl, hb3⟩
  have hb3' := HB2.out.trans (hb3.mono (by have := HB2.out.size; simp at this; omega))
  clear c0 c1 c2 c3 c4
  obtain ⟨c0, c1, c2, c3, c4⟩ := check_boxes hb3'
  have HB3 := Lib.hid hb3'; clear hb3' hb3 HB2
  cases g3 : allB (fun i => inB (nth c.traps i) 0 9) c.traps.length
  · go_wp2_with fail
    go_ret
    exact ⟨ret_int (by rw [HE.out, if_neg (by unfold badCount2; rw [g1]; simp), if_pos (by unfold badTraps; rw [g3]; simp)]), HB.out.trans (HB3.out.mono (by omega))⟩
  have E2 : checkC c = if badNights c then 4 else if badRuns c then 2 else if badTwice c then 5 else 0 := by
    rw [HE.out, if_neg (by unfold badCount2; rw [g1]; simp), if_neg (by unfold badRooms badTraps; rw [g2, g3]; simp)]
  have HE2 := Lib.hid E2; clear E2 HE
  have G1 := Lib.hid g1
  clear g1 g2 g3
  have hB0 : Below w.heap.size w w3 := HB.out.trans (HB3.out.mono (by omega))
  have HB0 := Lib.hid hB0; clear hB0
  go_wp2_with fail
  go_loop [57] (fun i => ∃ k : Nat, k ≤ c.nights.length ∧ i = .int .i64 k ∧ Hid (∀ j, j < k → allB (okNight c j) (nthR c.nights j).length = true)) (fun i => c.nights.length - (intOf i).toNat)
  case atStart => exact ⟨0, Nat.zero_le _, rfl, fun j hj => by omega⟩
  case round =>
    obtain ⟨k, hk, rfl, hdone⟩ := hrel
    by_cases hlt : k < c.nights.length
    · obtain ⟨b, off, u, rfl, hbl, hcell, hru⟩ := N3.out k hlt
      obtain ⟨ai, ci, rfl, i1, i2, i3⟩ := hru.open
      have hlen : (nthR c.nights k).length = c.rooms.length := by have := allB_iff.1 G1.out k hlt; simpa [okRow] using this
      have hc1 : w3.cell? ⟨b, off + k, none⟩ = some (.slice ai (nthR c.nights k).length ci) := (HB0.out.cell (p := ⟨b, off + k, none⟩) hbl).trans hcell
      have I3 := Lib.hid i3
      have hl1 : (nthR c.nights k).length ≤ c.rooms.length := by omega
      clear hcell hru i3 hlen
      go_wp2_with fail
      go_loop [63] (fun i => ∃ j : Nat, j ≤ (nthR c.nights k).length ∧ i = .int .i64 j ∧ Hid (∀ h, h < j → okNight c k h = true)) (fun i => (nthR c.nights k).length - (intOf i).toNat)
      case atStart => exact ⟨0, Nat.zero_le _, rfl, fun j hj => by omega⟩
      case round =>
        obtain ⟨j, hj, rfl, hin⟩ := hrel
        by_cases hjl : j < (nthR c.nights k).length
        · obtain ⟨b2, off2, rfl, hbl2, hcell2⟩ := I3.out j hjl
          obtain ⟨b3, off3, rfl, hbl3, hcell3⟩ := T3.out j (by omega)
          have hc2 : w3.cell? ⟨b2, off2 + j, none⟩ = some (.int .i64 (nth (nthR c.nights k) j)) := (HB0.out.cell (p := ⟨b2, off2 + j, none⟩) hbl2).trans hcell2
          have hc3 : w3.cell? ⟨b3, off3 + j, none⟩ = some (.int .i64 (nth c.traps j)) := (HB0.out.cell (p := ⟨b3, off3 + j, none⟩) hbl3).trans hcell3
          clear hcell2 hcell3
          cases hg : inB (nth (nthR c.nights k) j) 0 (nth c.traps j)
          · go_wp2_with (go_at_call 78; refine (in_any _ _ _ _).mono ?_; rintro e w' ⟨rfl, rfl⟩)
            go_ret
            exact ⟨ret_int (by rw [HE2.out, if_pos (by unfold badNights; rw [allB_false (p := fun i => allB (okNight c i) (nthR c.nights i).length) hlt (allB_false hjl hg)]; rfl)]), HB0.out⟩
          · go_wp2_with (go_at_call 78; refine (in_any _ _ _ _).mono ?_; rintro e w' ⟨rfl, rfl⟩)
            go_round
            case rel => exact ⟨j + 1, by omega, by go_num, fun h hh => by rcases Nat.lt_succ_iff_lt_or_eq.1 hh with q | q; exact hin.out h q; rw [q]; exact hg⟩
            case measure => simp [intOf]; omega
        · go_wp2_with fail
          go_round
          case rel => exact ⟨k + 1, by omega, by go_num, fun i hi => by rcases Nat.lt_succ_iff_lt_or_eq.1 hi with q | q; exact hdone.out i q; rw [q]; exact allB_true (fun h hh => hin.out h (by omega))⟩
          case measure => simp [intOf]; omega
    · have E3 : checkC c = if badRuns c then 2 else if badTwice c then 5 else 0 := by
        rw [HE2.out, if_neg (by unfold badNights; rw [allB_true (p := fun i => allB (okNight c i) (nthR c.nights i).length) (fun i hi => hdone.out i (by omega))]; simp)]
      have HE3 := Lib.hid E3; clear E3 HE2
      go_wp2_with fail
      have q3 := (everyRuns_any (.slice au c.runs.length cu) c.runs.length 85 #[.pointer (some ⟨w.heap.size + 1, 0, none⟩)] (okRun c) (pcell c.runs) w3 ((HU.out.1.below HB0.out (Nat.le_refl _)).mono HB0.out.size) (by
        refine ⟨Try.call85, fun i hi w' hw' hB => ?_⟩
        have hlt := block_lt_of_cell c4
        have hbx : w'.cell? ⟨w.heap.size + 1, 0, none⟩ = some (.int .i64 c.rooms.length) := (hw'.cell (p := ⟨w.heap.size + 1, 0, none⟩) hlt).trans c4
        simp only []
        rw [pcell_even, pcell_odd]
        exact check4_any _ _ c.rooms.length (w.heap.size + 1) w' r2 hbx))
      refine q3.mono ?_
      clear q3
      rintro e w4 ⟨rfl, hb4⟩
      have hb4' := HB3.out.trans (hb4.mono (by have := HB3.out.size; simp at this; omega))
      clear c0 c1 c2 c3 c4
      obtain ⟨c0, c1, c2, c3, c4⟩ := check_boxes hb4'
      have HB4 := Lib.hid hb4'; clear hb4' hb4 HB3
      cases g4 : allB (okRun c) c.runs.length
      · go_wp2_with fail
        go_ret
        exact ⟨ret_int (by rw [HE3.out, if_pos (by unfold badRuns; rw [g4]; rfl)]), HB.out.trans (HB4.out.mono (by omega))⟩
      have E4 : checkC c = if badTwice c then 5 else 0 := by rw [HE3.out, if_neg (by unfold badRuns; rw [g4]; simp)]
      have HE4 := Lib.hid E4; clear E4 HE3 g4
      have hmm := @run_makeMap Try.prog
      have hz4 : w.heap.size + 2 ≤ w4.heap.size := by have := HB4.out.size; simp at this; omega
      have hz4a : w.heap.size < w4.heap.size := by omega
      have hmade := RunSet.made w4
      have HM := Lib.hid hmade; clear hmade
      go_wp2_with fail
      obtain ⟨W5, hW5⟩ : ∃ W5, w4.alloc (.map #[] 0) = W5 := ⟨_, rfl⟩
      have hs5 : W5.heap.size = w4.heap.size + 1 := by rw [← hW5]; simp
      have hb5 : Below (w.heap.size + 2) w4 W5 := by rw [← hW5]; exact (Below.refl _ _).alloc hz4 _
      have HB5 := Lib.hid (HB4.out.trans hb5); clear hb5
      have HM5 : Hid (RunSet W5 w4.heap.size 0 (metC c 0)) := by rw [← hW5]; exact HM.out
      rw [hW5]
      clear hW5 HM
      have hs5' : w4.heap.size < W5.heap.size := by omega
      have HS5 := Lib.hid hs5; clear hs5
      go_loopw [87] (fun i wr => ∃ k : Nat, k ≤ c.runs.length ∧ i = .int .i64 k ∧ Hid (∀ j, j < k → okTwice c j = true) ∧ Hid (RunSet wr w4.heap.size k (metC c k)) ∧ Below (w.heap.size + 2) W5 wr ∧ w4.heap.size < wr.heap.size) (fun i _ => c.runs.length - (intOf i).toNat)
      case atStart => exact ⟨0, Nat.zero_le _, rfl, fun j hj => by omega, HM5, Below.refl _ _, hs5'⟩
      case round =>
        obtain ⟨k, hk, rfl, hdone, hset, hbr, hsz⟩ := hrel
        have HBR := Lib.hid hbr; clear hbr
        by_cases hlt : k < c.runs.length
        · obtain ⟨b, off, rfl, hbl, hcA, hcB⟩ := U3.out k hlt
          have hall := HB5.out.trans HBR.out
          have hW : Below w.heap.size w wr := HB.out.trans (hall.mono (by omega))
          have hc1 : wr.cell? ⟨b, off + k * 2, none⟩ = some (.int .i64 (nthP c.runs k).1) := (hW.cell (p := ⟨b, off + k * 2, none⟩) hbl).trans hcA
          have hc2 : wr.cell? ⟨b, off + k * 2 + 1, none⟩ = some (.int .i64 (nthP c.runs k).2) := (hW.cell (p := ⟨b, off + k * 2 + 1, none⟩) hbl).trans hcB
          have HW := Lib.hid hW
          clear hcA hcB hall hW
          have hI := HU.out.2 _ (nthP_mem hlt)
          have hI1 : I64 (min (nthP c.runs k).1 (nthP c.runs k).2) := by unfold I64 at hI ⊢; omega
          have hI2 : I64 (max (nthP c.runs k).1 (nthP c.runs k).2) := by unfold I64 at hI ⊢; omega
          have HI := Lib.hid (And.intro hI1 hI2); clear hI hI1 hI2
          have bad : okTwice c k = false → checkC c = 5 := fun h => by rw [HE4.out, if_pos (by unfold badTwice; rw [allB_false hlt h]; rfl)]
          have HBAD := Lib.hid bad; clear bad
          have box1 : (wr.alloc (.cells #[.int .i64 (nthP c.runs k).1, .int .i64 (nthP c.runs k).2] 63)).cell? ⟨wr.heap.size, 0, none⟩ = some (.int .i64 (nthP c.runs k).1) := by simp [go_sem]
          have box2 : (wr.alloc (.cells #[.int .i64 (nthP c.runs k).1, .int .i64 (nthP c.runs k).2] 63)).cell? ⟨wr.heap.size, 1, none⟩ = some (.int .i64 (nthP c.runs k).2) := by simp [go_sem]
          have hal : Below wr.heap.size wr (wr.alloc (.cells #[.int .i64 (nthP c.runs k).1, .int .i64 (nthP c.runs k).2] 63)) := (Below.refl _ _).alloc (Nat.le_refl _) _
          have HX := Lib.hid (And.intro box1 (And.intro box2 hal)); clear box1 box2 hal
          cases hd : ((nthP c.runs k).1 == (nthP c.runs k).2)
          · cases hm : metC c k (pairOf (nthP c.runs k))
            all_goals
              go_wp2_with fail
              refine (pair_any _ _ _).mono ?_
              rintro e wp ⟨rfl, hbp⟩
              simp only [World.size_alloc] at hbp
              have hx1 : wp.cell? ⟨wr.heap.size, 0, none⟩ = some (.int .i64 (nthP c.runs k).1) := (hbp.cell (p := ⟨_, _, none⟩) (by simp)).trans HX.out.1
              have hx2 : wp.cell? ⟨wr.heap.size, 1, none⟩ = some (.int .i64 (nthP c.runs k).2) := (hbp.cell (p := ⟨_, _, none⟩) (by simp)).trans HX.out.2.1
              have hbw : Below wr.heap.size wr wp := HX.out.2.2.trans (hbp.mono (by omega))
              have hset1 := hset.out.kept (hbw.mono (by omega))
              have hlk : (Instr.lookup 115 (.map (some w4.heap.size)) (.agg #[.int .i64 (min (nthP c.runs k).1 (nthP c.runs k).2), .int .i64 (max (nthP c.runs k).1 (nthP c.runs k).2)]) false).run Try.prog wp = .ok (.bool (metC c k (pairOf (nthP c.runs k)))) wp := hset1.look (pairOf (nthP c.runs k)) HI.out.1 HI.out.2
              have HS1 := Lib.hid hset1; have HBW := Lib.hid hbw; clear hset1 hbw hbp
              rw [hm] at hlk
            · go_wp2_with fail
              refine (pair_any _ _ _).mono ?_
              rintro e wq ⟨rfl, hbq⟩
              have hszp : w4.heap.size < wp.heap.size := Nat.lt_of_lt_of_le hsz HBW.out.size
              have hset2 := HS1.out.kept (hbq.mono (by omega))
              obtain ⟨wu, hrun, hset3, hgr⟩ := hset2.put (by unfold maxLen; omega) (pairOf (nthP c.runs k)) HI.out.1 HI.out.2
              have hrun' : (Instr.mapUpdate 115 (.map (some w4.heap.size)) (.agg #[.int .i64 (min (nthP c.runs k).1 (nthP c.runs k).2), .int .i64 (max (nthP c.runs k).1 (nthP c.runs k).2)]) (.bool true)).run Try.prog wq = .ok () wu := hrun
              have HS3 := Lib.hid hset3; have HGR := Lib.hid hgr; have HBQ := Lib.hid hbq
              clear hrun hset3 hgr hset2 hlk hx1 hx2 hbq
              go_wp2_with fail
              have hq : Below wr.heap.size wr wq := HBW.out.trans (HBQ.out.mono HBW.out.size)
              have hu : Below (w.heap.size + 2) W5 wu := (HBR.out.trans (hq.mono (by omega))).grown HGR.out (by have := hq.size; omega) (fun j hj => by cases hj; exact hz4)
              have hfin : RunSet wu w4.heap.size (k + 1) (metC c (k + 1)) := by
                have e : metC c (k + 1) = fun q => q == pairOf (nthP c.runs k) || metC c k q := funext fun q => metC_succ c k q
                rw [e]; exact HS3.out
              have hok : okTwice c k = true := by rw [okTwice_eq c k hd, hm]; rfl
              have hsu : w4.heap.size < wu.heap.size := by have := HGR.out.size; have := hq.size; omega
              have HF := Lib.hid (And.intro hu (And.intro hfin hok)); clear hu hfin hok hq
              go_roundw
              case rel => exact ⟨k + 1, by omega, by go_num, fun j hj => by rcases Nat.lt_succ_iff_lt_or_eq.1 hj with q | q; exact hdone.out j q; rw [q]; exact HF.out.2.2, HF.out.2.1, HF.out.1, hsu⟩
              case measure => simp [intOf]; omega
            · go_wp2_with fail
              go_ret
              exact ⟨ret_int (HBAD.out (by rw [okTwice_eq c k hd, hm]; rfl)).symm, HW.out.trans (HBW.out.mono (by have := HW.out.size; omega))⟩
          · go_wp2_with fail
            go_ret
            exact ⟨ret_int (HBAD.out (by unfold okTwice; simp [bne, hd])).symm, HW.out.trans (HX.out.2.2.mono HW.out.size)⟩
        · go_wp2_with fail
          go_ret
          exact ⟨ret_int (by rw [HE4.out, if_neg (by unfold badTwice; rw [allB_true (fun i hi => hdone.out i (by omega))]; simp)]), HB.out.trans ((HB5.out.trans HBR.out).mono (by omega))⟩

theorem check_any (c : Col) (r t u n : Value) (w : World) (h : ColAt w w.heap.size r t u n c) :
    Calls Try.prog 20 #[.agg #[r, t, u, n]] w fun e w' => e = .returned (.int .i64 (checkC c)) ∧ Below w.heap.size w w' := by
  cases hb : badCount1 c
  · exact check_rest c r t u n w h hb
  · exact check_count1 c r t u n w h hb
end Go.Proofs.Ytnhifinfjfpoiaa

namespace Go.Proofs.Ytnhifinfjfpoiaa
open Go.RowKit
set_option linter.unusedVariables false

theorem quiet_same {P : Program} {f : FuncId} {args : Array Value} {w : World} {n : Nat} {v : Value}
    (h : Calls P f args (w.drewN n) fun e w' => e = .returned v ∧ w.drewN n = w') : Calls P f args (w.drewN n) fun e w'' => e = .returned v ∧ ∃ m, w'' = w.drewN m :=
  h.mono fun _ _ ⟨he, hm⟩ => ⟨he, n, hm.symm⟩
theorem off_out {n lo hi : Int} (h : inB n lo hi = false) (w : World) : Calls Try.prog 87 #[.int .i64 n, .int .i64 lo, .int .i64 hi] w fun e w' => e = .returned (.bool true) ∧ w = w' :=
  (off_any n lo hi w).mono (by rintro e w' ⟨rfl, h'⟩; exact ⟨by rw [h]; rfl, h'⟩)
theorem off_in {n lo hi : Int} (h : inB n lo hi = true) (w : World) : Calls Try.prog 87 #[.int .i64 n, .int .i64 lo, .int .i64 hi] w fun e w' => e = .returned (.bool false) ∧ w = w' :=
  (off_any n lo hi w).mono (by rintro e w' ⟨rfl, h'⟩; exact ⟨by rw [h]; rfl, h'⟩)
theorem joins_as {p : Int × Int} {a b : Int} {v : Bool} (h : joinsB p a b = v) (w : World) : Calls Try.prog 88 #[.agg #[.int .i64 p.1, .int .i64 p.2], .int .i64 a, .int .i64 b] w fun e w' => e = .returned (.bool v) ∧ Below w.heap.size w w' := h ▸ joins_any p a b w
theorem below_drewN {B : Nat} (w : World) (n : Nat) : Below B w (w.drewN n) := Below.drewN (Below.refl B w) n
theorem box4 {w w1 : World} {r t u n : Value} {ty : TypeId} (hb : Below (w.heap.size + 1) (w.alloc (.cells #[r, t, u, n] ty)) w1) :
    w1.cell? ⟨w.heap.size, 0, none⟩ = some r ∧ w1.cell? ⟨w.heap.size, 1, none⟩ = some t ∧ w1.cell? ⟨w.heap.size, 2, none⟩ = some u ∧ w1.cell? ⟨w.heap.size, 3, none⟩ = some n := by
  refine ⟨(hb.cell (p := ⟨_, _, none⟩) (by simp)).trans ?_, (hb.cell (p := ⟨_, _, none⟩) (by simp)).trans ?_, (hb.cell (p := ⟨_, _, none⟩) (by simp)).trans ?_, (hb.cell (p := ⟨_, _, none⟩) (by simp)).trans ?_⟩ <;> simp [go_sem]

/-- A struct of four fields in block b. -/
def Box4 (w : World) (b : Nat) (r t u n : Value) : Prop := w.cell? ⟨b, 0, none⟩ = some r ∧ w.cell? ⟨b, 1, none⟩ = some t ∧ w.cell? ⟨b, 2, none⟩ = some u ∧ w.cell? ⟨b, 3, none⟩ = some n
theorem Box4.below {w w' : World} {b B : Nat} {r t u n : Value} (h : Box4 w b r t u n) (hb : Below B w w') (hB : b < B) : Box4 w' b r t u n :=
  ⟨(hb.cell (p := ⟨b, 0, none⟩) hB).trans h.1, (hb.cell (p := ⟨b, 1, none⟩) hB).trans h.2.1, (hb.cell (p := ⟨b, 2, none⟩) hB).trans h.2.2.1, (hb.cell (p := ⟨b, 3, none⟩) hB).trans h.2.2.2⟩
theorem Box4.new (w : World) (r t u n : Value) (ty : TypeId) : Box4 (w.alloc (.cells #[r, t, u, n] ty)) w.heap.size r t u n := by
  refine ⟨?_, ?_, ?_, ?_⟩ <;> simp [go_sem]

set_option maxHeartbeats 4000000 in
set_option maxRecDepth 100000 in
theorem rcheck_any (c : Col) (r t u n : Value) (w : World) (h : ColAt w w.heap.size r t u n c) :
    Calls Try.prog 21 #[.agg #[r, t, u, n]] w fun e w' => e = .returned (.int .i64 (checkC c)) ∧ Below w.heap.size w w' := by
  obtain ⟨hr, ht, hu, hn⟩ := h
  obtain ⟨ar, cr, rfl, r1, r2, r3⟩ := hr.open
  obtain ⟨at_, ct, rfl, t1, t2, t3⟩ := ht.open
  obtain ⟨au, cu, rfl, u1, u2, u3⟩ := hu.open
  obtain ⟨an, cn, rfl, n1, n2, n3⟩ := hn.open
  have R3 := Lib.hid r3; have T3 := Lib.hid t3; have U3 := Lib.hid u3; have N3 := Lib.hid n3; clear r3 t3 u3 n3
  have hBW := (Below.refl w.heap.size w).alloc (Nat.le_refl _) (.cells #[.slice ar c.rooms.length cr, .slice at_ c.traps.length ct, .slice au c.runs.length cu, .slice an c.nights.length cn] 32)
  have HB := Lib.hid hBW
  clear hr ht hu hn hBW
  cases hgood : badCount1 c
  case true =>
    have e : checkC c = 3 := by unfold checkC; rw [if_pos hgood]
    rw [e]; clear e
    by_cases h1 : 1 ≤ c.rooms.length ∧ c.rooms.length ≤ 6
    · have h1' := inB_of (n := c.rooms.length) (lo := 1) (hi := 6) (by omega)
      by_cases h2 : c.traps.length = c.rooms.length
      · have h2a : c.traps.length ≤ c.rooms.length := by omega
        have h2b : c.rooms.length ≤ c.traps.length := by omega
        by_cases h3 : 12 < c.runs.length
        · clear hgood h2 h1'
          go_enter Try.func21, Try.ntmps21
          go_wp2_with fail
          go_ret
          exact ⟨rfl, HB.out⟩
        · have h4 : 6 < c.nights.length := by simpa [badCount1, h1', h2, h3] using hgood
          clear hgood h2 h1'
          go_enter Try.func21, Try.ntmps21
          go_wp2_with fail
          go_ret
          exact ⟨rfl, HB.out⟩
      · clear hgood h1'
        go_enter Try.func21, Try.ntmps21
        go_wp2_with fail
        go_ret
        exact ⟨rfl, HB.out⟩
    · clear hgood
      by_cases h2 : c.rooms.length < 1
      all_goals
        go_enter Try.func21, Try.ntmps21
        go_wp2_with fail
        go_ret
        exact ⟨rfl, HB.out⟩
  case false =>
    have E1 : checkC c = if badCount2 c then 3 else if badRooms c || badTraps c then 4 else if badNights c then 4 else if badRuns c then 2 else if badTwice c then 5 else 0 := by unfold checkC; rw [if_neg (by rw [hgood]; simp)]
    have HE := Lib.hid E1; clear E1
    obtain ⟨h1, h2, h3, h4⟩ : inB c.rooms.length 1 6 = true ∧ c.traps.length = c.rooms.length ∧ c.runs.length ≤ 12 ∧ c.nights.length ≤ 6 := by
      simpa only [badCount1, Bool.or_eq_false_iff, Bool.not_eq_false', bne_eq_false_iff_eq, decide_eq_false_iff_not, Nat.not_lt, and_assoc] using hgood
    clear hgood
    have h1' := inB_true h1
    have h2a : c.traps.length ≤ c.rooms.length := by omega
    have h2b : c.rooms.length ≤ c.traps.length := by omega
    have h5 : 1 ≤ c.rooms.length := by omega
    have h6 : c.rooms.length ≤ 6 := by omega
    clear h2 h1 h1'
    go_enter Try.func21, Try.ntmps21
    go_wp2_with fail
    obtain ⟨W1, hW1⟩ : ∃ W1, w.alloc (.cells #[.slice ar c.rooms.length cr, .slice at_ c.traps.length ct, .slice au c.runs.length cu, .slice an c.nights.length cn] 32) = W1 := ⟨_, rfl⟩
    have hz1 : w.heap.size + 1 = W1.heap.size := by rw [← hW1]; simp
    have hbx := box4 (w := w) (w1 := W1) (by rw [hW1]; exact Below.refl _ _)
    rw [hW1] at HB ⊢
    have HBX : Hid (Box4 W1 w.heap.size (.slice ar c.rooms.length cr) (.slice at_ c.traps.length ct) (.slice au c.runs.length cu) (.slice an c.nights.length cn)) := hbx
    obtain ⟨c0, c1, c2, c3⟩ := hbx
    have HZ := Lib.hid hz1
    clear hW1 hz1
    go_loop [4] (fun i => ∃ k : Nat, k ≤ c.nights.length ∧ i = .int .i64 k ∧ Hid (∀ j, j < k → okRow c j = true)) (fun i => c.nights.length - (intOf i).toNat)
    case atStart => exact ⟨0, Nat.zero_le _, rfl, fun j hj => by omega⟩
    case round =>
      obtain ⟨k, hk, rfl, hdone⟩ := hrel
      by_cases hlt : k < c.nights.length
      · obtain ⟨b, off, u, rfl, hbl, hcell, hru⟩ := N3.out k hlt
        obtain ⟨ai, ci, rfl, i1, i2, i3⟩ := hru.open
        have hc1 : W1.cell? ⟨b, off + k, none⟩ = some (.slice ai (nthR c.nights k).length ci) := (HB.out.cell (p := ⟨b, off + k, none⟩) hbl).trans hcell
        clear hcell hru i3
        cases hg : okRow c k
        · have hne : ¬ (nthR c.nights k).length = c.rooms.length := by simpa [okRow] using hg
          go_wp2_with fail
          go_ret
          exact ⟨ret_int (by rw [HE.out, if_pos (by unfold badCount2; rw [allB_false hlt hg]; rfl)]), HB.out⟩
        · have hne : (nthR c.nights k).length = c.rooms.length := by simpa [okRow] using hg
          have hne1 : (nthR c.nights k).length ≤ c.rooms.length := by omega
          have hne2 : c.rooms.length ≤ (nthR c.nights k).length := by omega
          clear hne
          go_wp2_with fail
          go_round
          case rel => exact ⟨k + 1, by omega, by go_num, fun h hh => by rcases Nat.lt_succ_iff_lt_or_eq.1 hh with q | q; exact hdone.out h q; rw [q]; exact hg⟩
          case measure => simp [intOf]; omega
      · have hrows : ∀ i, i < c.nights.length → okRow c i = true := fun i hi => hdone.out i (by omega)
        have g1 : allB (okRow c) c.nights.length = true := allB_true hrows
        have E2 : checkC c = if badRooms c || badTraps c then 4 else if badNights c then 4 else if badRuns c then 2 else if badTwice c then 5 else 0 := by
          rw [HE.out, if_neg (by unfold badCount2; rw [g1]; simp)]
        have HE2 := Lib.hid E2; have HRW := Lib.hid hrows; clear E2 HE hrows hdone g1
        go_wp2_with fail
        go_loop [5] (fun i => ∃ k : Nat, k ≤ c.rooms.length ∧ i = .int .i64 k ∧ Hid (∀ j, j < k → inB (nth c.rooms j) 0 60 = true ∧ inB (nth c.traps j) 0 9 = true)) (fun i => c.rooms.length - (intOf i).toNat)
        case atStart => exact ⟨0, Nat.zero_le _, rfl, fun j hj => by omega⟩
        case round =>
          obtain ⟨k, hk, rfl, hdone⟩ := hrel
          by_cases hlt : k < c.rooms.length
          · obtain ⟨b, off, rfl, hbl, hcell⟩ := R3.out k hlt
            obtain ⟨b2, off2, rfl, hbl2, hcell2⟩ := T3.out k (by omega)
            have hc1 : W1.cell? ⟨b, off + k, none⟩ = some (.int .i64 (nth c.rooms k)) := (HB.out.cell (p := ⟨b, off + k, none⟩) hbl).trans hcell
            have hc2 : W1.cell? ⟨b2, off2 + k, none⟩ = some (.int .i64 (nth c.traps k)) := (HB.out.cell (p := ⟨b2, off2 + k, none⟩) hbl2).trans hcell2
            clear hcell hcell2
            cases hg : inB (nth c.rooms k) 0 60
            · go_wp2_with (go_at_call 87; refine (off_any _ _ _ _).mono ?_; rintro e w' ⟨rfl, rfl⟩)
              go_ret
              exact ⟨ret_int (by rw [HE2.out, if_pos (by unfold badRooms; rw [allB_false (p := fun i => inB (nth c.rooms i) 0 60) hlt hg]; rfl)]), HB.out⟩
            · cases hg2 : inB (nth c.traps k) 0 9
              · go_wp2_with (go_at_call 87; refine (off_any _ _ _ _).mono ?_; rintro e w' ⟨rfl, rfl⟩)
                go_ret
                exact ⟨ret_int (by rw [HE2.out, if_pos (by unfold badTraps; rw [allB_false (p := fun i => inB (nth c.traps i) 0 9) (by omega : k < c.traps.length) hg2]; simp)]), HB.out⟩
              · go_wp2_with (go_at_call 87; refine (off_any _ _ _ _).mono ?_; rintro e w' ⟨rfl, rfl⟩)
                go_round
                case rel => exact ⟨k + 1, by omega, by go_num, fun h hh => by rcases Nat.lt_succ_iff_lt_or_eq.1 hh with q | q; exact hdone.out h q; rw [q]; exact ⟨hg, hg2⟩⟩
                case measure => simp [intOf]; omega
          · have E3 : checkC c = if badNights c then 4 else if badRuns c then 2 else if badTwice c then 5 else 0 := by
              rw [HE2.out, if_neg (by unfold badRooms badTraps; rw [allB_true (p := fun i => inB (nth c.rooms i) 0 60) (fun i hi => (hdone.out i (by omega)).1), allB_true (p := fun i => inB (nth c.traps i) 0 9) (fun i hi => (hdone.out i (by omega)).2)]; simp)]
            have HE3 := Lib.hid E3; clear E3 HE2 hdone
            go_wp2_with fail
            go_loopw [6] (fun i wr => ∃ k : Nat, k ≤ c.nights.length ∧ i = .int .i64 k ∧ Hid (∀ j, j < k → allB (okNight c j) (nthR c.nights j).length = true) ∧ Below (w.heap.size + 1) W1 wr) (fun i _ => c.nights.length - (intOf i).toNat)
            case atStart => exact ⟨0, Nat.zero_le _, rfl, fun j hj => by omega, Below.refl _ _⟩
            case round =>
              clear c0 c1 c2 c3
              obtain ⟨wo, rfl⟩ : ∃ wo : World, wo = wr := ⟨_, rfl⟩
              obtain ⟨k, hk, rfl, hdone, hbr⟩ := hrel
              have HBR := Lib.hid hbr
              obtain ⟨c0, c1, c2, c3⟩ := HBX.out.below hbr (Nat.lt_succ_self _)
              have hW := HB.out.trans (hbr.mono (Nat.le_succ _))
              have HW := Lib.hid hW; clear hbr hW
              by_cases hlt : k < c.nights.length
              · obtain ⟨b, off, u, rfl, hbl, hcell, hru⟩ := N3.out k hlt
                obtain ⟨ai, ci, rfl, i1, i2, i3⟩ := hru.open
                have hlen : (nthR c.nights k).length = c.rooms.length := by simpa [okRow] using HRW.out k hlt
                have hc1 : wo.cell? ⟨b, off + k, none⟩ = some (.slice ai (nthR c.nights k).length ci) := (HW.out.cell (p := ⟨b, off + k, none⟩) hbl).trans hcell
                have HC1 : Hid (b < w.heap.size ∧ w.cell? ⟨b, off + k, none⟩ = some (.slice ai (nthR c.nights k).length ci)) := ⟨hbl, hcell⟩
                have I3 := Lib.hid i3; have HL := Lib.hid hlen
                have hl1 : (nthR c.nights k).length ≤ c.rooms.length := by omega
                have hl2 : c.rooms.length ≤ (nthR c.nights k).length := by omega
                clear hcell hru i3 hlen
                go_wp2_with fail
                go_loopw [7] (fun i wr => ∃ j : Nat, j ≤ c.rooms.length ∧ i = .int .i64 j ∧ Hid (∀ h, h < j → okNight c k h = true) ∧ Below (w.heap.size + 1) W1 wr) (fun i _ => c.rooms.length - (intOf i).toNat)
                case atStart => exact ⟨0, Nat.zero_le _, rfl, fun j hj => by omega, HBR.out⟩
                case round =>
                  clear c0 c1 c2 c3 hc1 HW HBR
                  obtain ⟨j, hj, rfl, hin, hbr⟩ := hrel
                  have HBR := Lib.hid hbr
                  obtain ⟨c0, c1, c2, c3⟩ := HBX.out.below hbr (Nat.lt_succ_self _)
                  have hW := HB.out.trans (hbr.mono (Nat.le_succ _))
                  have HW := Lib.hid hW; clear hbr hW
                  by_cases hjl : j < c.rooms.length
                  · obtain ⟨b2, off2, rfl, hbl2, hcell2⟩ := I3.out j (by omega)
                    obtain ⟨b3, off3, rfl, hbl3, hcell3⟩ := T3.out j (by omega)
                    have hc1 := (HW.out.cell (p := ⟨b, off + k, none⟩) HC1.out.1).trans HC1.out.2
                    have hc2 : wr.cell? ⟨b2, off2 + j, none⟩ = some (.int .i64 (nth (nthR c.nights k) j)) := (HW.out.cell (p := ⟨b2, off2 + j, none⟩) hbl2).trans hcell2
                    have hc3 : wr.cell? ⟨b3, off3 + j, none⟩ = some (.int .i64 (nth c.traps j)) := (HW.out.cell (p := ⟨b3, off3 + j, none⟩) hbl3).trans hcell3
                    clear hcell2 hcell3
                    have hj1 : j < (nthR c.nights k).length := by omega
                    have hj2 : j < c.traps.length := by omega
                    cases hg : inB (nth (nthR c.nights k) j) 0 (nth c.traps j)
                    · go_wp2_with fail
                      go_quiet ((go_at_call 87; exact quiet_same (off_out hg _)))
                      go_wp2_with fail
                      go_ret
                      exact ⟨ret_int (by rw [HE3.out, if_pos (by unfold badNights; rw [allB_false (p := fun i => allB (okNight c i) (nthR c.nights i).length) hlt (allB_false hj1 hg)]; rfl)]), HW.out.trans (below_drewN _ _)⟩
                    · go_wp2_with fail
                      go_quiet ((go_at_call 87; exact quiet_same (off_in hg _)))
                      go_wp2_with fail
                      go_roundw
                      case rel => exact ⟨j + 1, by omega, by go_num, fun h hh => by rcases Nat.lt_succ_iff_lt_or_eq.1 hh with q | q; exact hin.out h q; rw [q]; exact hg, HBR.out.trans (below_drewN _ _)⟩
                      case measure => simp [intOf]; omega
                  · go_wp2_with fail
                    go_roundw
                    case rel => exact ⟨k + 1, by omega, by go_num, fun i hi => by rcases Nat.lt_succ_iff_lt_or_eq.1 hi with q | q; exact hdone.out i q; rw [q]; exact allB_true (fun h hh => hin.out h (by omega)), HBR.out⟩
                    case measure => simp [intOf]; omega
              · have E4 : checkC c = if badRuns c then 2 else if badTwice c then 5 else 0 := by
                  rw [HE3.out, if_neg (by unfold badNights; rw [allB_true (p := fun i => allB (okNight c i) (nthR c.nights i).length) (fun i hi => hdone.out i (by omega))]; simp)]
                have HE4 := Lib.hid E4; clear E4 HE3 hdone
                go_wp2_with fail
                go_loopw [8] (fun i wr => ∃ k : Nat, k ≤ c.runs.length ∧ i = .int .i64 k ∧ Hid (∀ j, j < k → okRun c j = true) ∧ Below (w.heap.size + 1) W1 wr) (fun i _ => c.runs.length - (intOf i).toNat)
                case atStart => exact ⟨0, Nat.zero_le _, rfl, fun j hj => by omega, HBR.out⟩
                case round =>
                  clear c0 c1 c2 c3 HW HBR
                  obtain ⟨k, hk, rfl, hdone, hbr⟩ := hrel
                  have HBR := Lib.hid hbr
                  obtain ⟨c0, c1, c2, c3⟩ := HBX.out.below hbr (Nat.lt_succ_self _)
                  have hW := HB.out.trans (hbr.mono (Nat.le_succ _))
                  have HW := Lib.hid hW; clear hbr hW
                  by_cases hlt : k < c.runs.length
                  · obtain ⟨b, off, rfl, hbl, hcA, hcB⟩ := U3.out k hlt
                    have hc1 : wr.cell? ⟨b, off + k * 2, none⟩ = some (.int .i64 (nthP c.runs k).1) := (HW.out.cell (p := ⟨b, off + k * 2, none⟩) hbl).trans hcA
                    have hc2 : wr.cell? ⟨b, off + k * 2 + 1, none⟩ = some (.int .i64 (nthP c.runs k).2) := (HW.out.cell (p := ⟨b, off + k * 2 + 1, none⟩) hbl).trans hcB
                    clear hcA hcB
                    cases hg1 : inB (nthP c.runs k).1 0 (c.rooms.length - 1)
                    · go_wp2_with (go_at_call 87; refine (off_any _ _ _ _).mono ?_; rintro e w' ⟨rfl, rfl⟩)
                      go_ret
                      exact ⟨ret_int (by rw [HE4.out, if_pos (by unfold badRuns; rw [allB_false (p := okRun c) hlt (by unfold okRun; rw [hg1]; rfl)]; rfl)]), HW.out⟩
                    · cases hg2 : inB (nthP c.runs k).2 0 (c.rooms.length - 1)
                      · go_wp2_with (go_at_call 87; refine (off_any _ _ _ _).mono ?_; rintro e w' ⟨rfl, rfl⟩)
                        go_ret
                        exact ⟨ret_int (by rw [HE4.out, if_pos (by unfold badRuns; rw [allB_false (p := okRun c) hlt (by unfold okRun; rw [hg1, hg2]; rfl)]; rfl)]), HW.out⟩
                      · go_wp2_with (go_at_call 87; refine (off_any _ _ _ _).mono ?_; rintro e w' ⟨rfl, rfl⟩)
                        go_roundw
                        case rel => exact ⟨k + 1, by omega, by go_num, fun h hh => by rcases Nat.lt_succ_iff_lt_or_eq.1 hh with q | q; exact hdone.out h q; rw [q]; unfold okRun; rw [hg1, hg2]; rfl, HBR.out⟩
                        case measure => simp [intOf]; omega
                  · have E5 : checkC c = if badTwice c then 5 else 0 := by
                      rw [HE4.out, if_neg (by unfold badRuns; rw [allB_true (p := okRun c) (fun i hi => hdone.out i (by omega))]; simp)]
                    have HE5 := Lib.hid E5; clear E5 HE4 hdone
                    go_wp2_with fail
                    go_loopw [9] (fun i wr => ∃ k : Nat, k ≤ c.runs.length ∧ i = .int .i64 k ∧ Hid (∀ j, j < k → okTwice c j = true) ∧ Below (w.heap.size + 1) W1 wr) (fun i _ => c.runs.length - (intOf i).toNat)
                    case atStart => exact ⟨0, Nat.zero_le _, rfl, fun j hj => by omega, HBR.out⟩
                    case round =>
                      clear c0 c1 c2 c3 HW HBR
                      obtain ⟨wo, rfl⟩ : ∃ wo : World, wo = wr := ⟨_, rfl⟩
                      obtain ⟨k, hk, rfl, hdone, hbr⟩ := hrel
                      have HBR := Lib.hid hbr
                      obtain ⟨c0, c1, c2, c3⟩ := HBX.out.below hbr (Nat.lt_succ_self _)
                      have hW := HB.out.trans (hbr.mono (Nat.le_succ _))
                      have HW := Lib.hid hW; clear hbr hW
                      by_cases hlt : k < c.runs.length
                      · obtain ⟨b, off, rfl, hbl, hcA, hcB⟩ := U3.out k hlt
                        have hc1 : wo.cell? ⟨b, off + k * 2, none⟩ = some (.int .i64 (nthP c.runs k).1) := (HW.out.cell (p := ⟨b, off + k * 2, none⟩) hbl).trans hcA
                        have hc2 : wo.cell? ⟨b, off + k * 2 + 1, none⟩ = some (.int .i64 (nthP c.runs k).2) := (HW.out.cell (p := ⟨b, off + k * 2 + 1, none⟩) hbl).trans hcB
                        have HC := Lib.hid (And.intro hcA hcB)
                        clear hcA hcB
                        have bad : okTwice c k = false → checkC c = 5 := fun h => by rw [HE5.out, if_pos (by unfold badTwice; rw [allB_false hlt h]; rfl)]
                        have HBAD := Lib.hid bad; clear bad
                        cases hd : ((nthP c.runs k).1 == (nthP c.runs k).2)
                        · go_wp2_with fail
                          go_quiet (fail)
                          go_wp2_with fail
                          go_loopw [10] (fun i wr => ∃ j : Nat, j ≤ k ∧ i = .int .i64 j ∧ Hid (∀ h, h < j → joinsB (nthP c.runs h) (nthP c.runs k).1 (nthP c.runs k).2 = false) ∧ Below (w.heap.size + 1) W1 wr) (fun i _ => k - (intOf i).toNat)
                          case atStart => exact ⟨0, Nat.zero_le _, rfl, fun j hj => by omega, HBR.out.trans (below_drewN _ _)⟩
                          case round =>
                            clear c0 c1 c2 c3 hc1 hc2 HW HBR
                            obtain ⟨j, hj, rfl, hin, hbr⟩ := hrel
                            have HBR := Lib.hid hbr
                            obtain ⟨c0, c1, c2, c3⟩ := HBX.out.below hbr (Nat.lt_succ_self _)
                            have hW := HB.out.trans (hbr.mono (Nat.le_succ _))
                            have HW := Lib.hid hW; clear hbr hW
                            by_cases hjl : j < k
                            · obtain ⟨b', off', he, hbl', hcA, hcB⟩ := U3.out j (by omega)
                              obtain ⟨rfl, rfl⟩ : b' = b ∧ off' = off := by simp at he; omega
                              clear he
                              have hc1 : wr.cell? ⟨b', off' + k * 2, none⟩ = some (.int .i64 (nthP c.runs k).1) := (HW.out.cell (p := ⟨b', off' + k * 2, none⟩) hbl).trans HC.out.1
                              have hc2 : wr.cell? ⟨b', off' + k * 2 + 1, none⟩ = some (.int .i64 (nthP c.runs k).2) := (HW.out.cell (p := ⟨b', off' + k * 2 + 1, none⟩) hbl).trans HC.out.2
                              have hc3 : wr.cell? ⟨b', off' + j * 2, none⟩ = some (.int .i64 (nthP c.runs j).1) := (HW.out.cell (p := ⟨b', off' + j * 2, none⟩) hbl).trans hcA
                              have hc4 : wr.cell? ⟨b', off' + j * 2 + 1, none⟩ = some (.int .i64 (nthP c.runs j).2) := (HW.out.cell (p := ⟨b', off' + j * 2 + 1, none⟩) hbl).trans hcB
                              clear hcA hcB
                              have hjr : j < c.runs.length := by omega
                              have hsz := HW.out.size
                              cases hjn : joinsB (nthP c.runs j) (nthP c.runs k).1 (nthP c.runs k).2
                              · go_wp2_with fail
                                go_still_tail 17, (by kernel_rfl)
                                go_wp2_with (go_at_call 88; refine (joins_as hjn _).mono ?_; rintro e w2 ⟨rfl, hb2⟩)
                                go_roundw
                                case rel => exact ⟨j + 1, by omega, by go_num, fun h hh => by rcases Nat.lt_succ_iff_lt_or_eq.1 hh with q | q; exact hin.out h q; rw [q]; exact hjn, HBR.out.trans ((Below.drew (Below.refl _ _)).trans (hb2.mono (by have := HBR.out.size; have := HZ.out; simp; omega)))⟩
                                case measure => simp [intOf]; omega
                              · go_wp2_with fail
                                go_still_tail 17, (by kernel_rfl)
                                go_wp2_with (go_at_call 88; refine (joins_as hjn _).mono ?_; rintro e w2 ⟨rfl, hb2⟩)
                                go_ret
                                exact ⟨ret_int (HBAD.out (by unfold okTwice; rw [allB_false (p := fun k' => !joinsB (nthP c.runs k') (nthP c.runs k).1 (nthP c.runs k).2) hjl (by rw [hjn]; rfl)]; simp)).symm, HW.out.trans ((Below.drew (Below.refl _ _)).trans (hb2.mono hsz))⟩
                            · go_wp2_with fail
                              go_roundw
                              case rel => exact ⟨k + 1, by omega, by go_num, fun h hh => by rcases Nat.lt_succ_iff_lt_or_eq.1 hh with q | q; exact hdone.out h q; rw [q]; unfold okTwice; rw [allB_true (fun i hi => by rw [hin.out i (by omega)]; rfl)]; simp [bne, hd], HBR.out⟩
                              case measure => simp [intOf]; omega
                        · go_wp2_with fail
                          go_quiet (fail)
                          go_wp2_with fail
                          go_ret
                          exact ⟨ret_int (HBAD.out (by unfold okTwice; simp [bne, hd])).symm, HW.out.trans (below_drewN _ _)⟩
                      · go_wp2_with fail
                        go_ret
                        exact ⟨ret_int (by rw [HE5.out, if_neg (by unfold badTwice; rw [allB_true (fun i hi => hdone.out i (by omega))]; simp)]), HW.out⟩
end Go.Proofs.Ytnhifinfjfpoiaa
