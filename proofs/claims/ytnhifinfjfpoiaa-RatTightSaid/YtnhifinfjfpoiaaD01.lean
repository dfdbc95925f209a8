/- RatTight holds: for whatever bytes the law answers true, and what came in reads as it read before. No condition is laid on the arguments beyond the form's own reach. -/
import Derived.Test.YtnhifinfjfpoiaaK11
import Derived.Test.YtnhifinfjfpoiaaK13
import Derived.Test.YtnhifinfjfpoiaaK08
import Derived.Test.YtnhifinfjfpoiaaRows
import Derived.Test.YtnhifinfjfpoiaaK12
namespace Go.Proofs.Ytnhifinfjfpoiaa
open Go.RowKit
set_option linter.unusedVariables false

theorem check_of_ok {c : Col} (k : OkCol c) : checkC c = 0 := by
  have h1 := k.houses
  have e1 : badCount1 c = false := by
    have a : inB (c.rooms.length : Int) 1 6 = true := inB_of ⟨by omega, by omega⟩
    have b := k.traps; have d := k.runs; have e := k.nights
    unfold badCount1
    simp [a, b]; omega
  have e2 : badCount2 c = false := by
    unfold badCount2
    rw [allB_true (fun i hi => by unfold okRow; simpa using k.row i hi)]; rfl
  have e3 : badRooms c = false := by
    unfold badRooms
    rw [allB_true (fun i hi => inB_of (k.room i hi))]; rfl
  have e4 : badTraps c = false := by
    unfold badTraps
    rw [allB_true (fun i hi => inB_of (k.trap i (by have := k.traps; omega)))]; rfl
  have e5 : badNights c = false := by
    unfold badNights
    rw [allB_true (fun i hi => allB_true (fun j hj => by
      have hj' : j < c.rooms.length := by have := k.row i hi; omega
      unfold okNight; exact inB_of (k.night i j hi hj')))]; rfl
  have e6 : badRuns c = false := by
    unfold badRuns
    rw [allB_true (fun i hi => by
      have := k.run i hi
      unfold okRun
      rw [inB_of ⟨by omega, by omega⟩, inB_of ⟨by omega, by omega⟩]; rfl)]; rfl
  have e7 : badTwice c = false := by
    unfold badTwice
    rw [allB_true (fun i hi => by
      have := k.differ i hi
      unfold okTwice
      rw [allB_true (fun j hj => by rw [k.once i j hi hj]; rfl)]
      simpa using this)]; rfl
  unfold checkC
  rw [e1, e2, e3, e4, e5, e6, e7]; rfl
theorem fit_or {c : Col} (h : checkC c = 0) : fitErr c = 0 ∨ fitErr c = 7 := by
  unfold fitErr
  rw [if_pos h]
  split
  · exact .inr rfl
  · exact .inl rfl
theorem rooms_check {rooms rooms' traps : List Int} {rs : List (Int × Int)} {N : List (List Int)} (h : checkC ⟨rooms, traps, rs, N⟩ = 0) (hl : rooms'.length = rooms.length) (hb : ∀ i, i < rooms.length → 0 ≤ nth rooms' i ∧ nth rooms' i ≤ 60) : checkC ⟨rooms', traps, rs, N⟩ = 0 := by
  have k := okCol_of h
  have e : (⟨rooms', traps, rs, N⟩ : Col).rooms.length = rooms.length := hl
  refine check_of_ok ⟨by rw [e]; exact k.houses, by rw [e]; exact k.traps, k.runs, k.nights, fun i hi => by rw [e]; exact k.row i hi, fun i hi => hb i (by rw [e] at hi; exact hi), fun i hi => k.trap i (by rw [e] at hi; exact hi), fun i j hi hj => k.night i j hi (by rw [e] at hj; exact hj), fun i hi => by rw [e]; exact k.run i hi, k.differ, k.once⟩
/-- How much room houses that are told in increasing order have. -/
theorem roomTo_set {c : Col} {l : List Int} (h6 : ∀ i, i < l.length → 0 ≤ nth l i ∧ nth l i < 6) (hinc : ∀ i j, i < j → j < l.length → nth l i < nth l j) : ∀ k, k ≤ l.length → roomTo c l k = roomsOf (nth c.rooms) (setTo l k).testBit
  | 0, _ => by
    have e : roomsOf (nth c.rooms) (setTo l 0).testBit = sumN (fun _ => 0) 6 := sumN_congr fun i hi => by simp [setTo]
    rw [e, sumN_zero]; rfl
  | k + 1, hk => by
    have h0 : ∀ i, i < l.length → 0 ≤ nth l i := fun i hi => (h6 i hi).1
    have hb := h6 k (by omega)
    have e : roomTo c l (k + 1) = roomTo c l k + nth c.rooms (nth l k).toNat := rfl
    rw [e, roomTo_set h6 hinc k (by omega)]
    unfold roomsOf
    obtain ⟨q, hq⟩ : ∃ q : Nat, nth l k = q := ⟨(nth l k).toNat, by omega⟩
    have hq6 : q < 6 := by omega
    have hnot : (setTo l k).testBit q = false := by
      cases hc : (setTo l k).testBit q
      · rfl
      · obtain ⟨i, hi, e⟩ := (setTo_mem h0 q k (by omega)).1 hc
        have := hinc i k hi (by omega)
        omega
    have key : ∀ h, (setTo l (k + 1)).testBit h = ((setTo l k).testBit h || decide (h = q)) := fun h => by
      rw [Bool.eq_iff_iff, setTo_mem h0 h (k + 1) hk, Bool.or_eq_true, setTo_mem h0 h k (by omega), decide_eq_true_iff]
      constructor
      · rintro ⟨i, hi, e⟩
        by_cases c : i = k
        · subst c; right; omega
        · left; exact ⟨i, by omega, e⟩
      · rintro (⟨i, hi, e⟩ | e)
        · exact ⟨i, by omega, e⟩
        · exact ⟨k, by omega, by omega⟩
    rw [hq, Int.toNat_natCast]
    have e2 : sumN (fun h => if (setTo l (k + 1)).testBit h = true then nth c.rooms h else 0) 6 = sumN (fun j => if j = q then nth c.rooms q else (fun h => if (setTo l k).testBit h = true then nth c.rooms h else 0) j) 6 := sumN_congr fun i hi => by
      rw [key i]
      by_cases c : i = q
      · subst c; simp
      · simp [c]
    rw [e2, sumN_set, if_pos hq6, hnot]
    simp
theorem inc_all {l : List Int} (h : incB l = true) : ∀ i j, i < j → j < l.length → nth l i < nth l j := by
  unfold incB at h
  rw [allB_iff] at h
  intro i j hij
  induction j with
  | zero => omega
  | succ j ih =>
    intro hj
    have h1 := h j (by omega)
    simp only [decide_eq_true_eq] at h1
    by_cases e : i = j
    · subst e; exact h1
    · have := ih (by omega) (by omega); omega
/-- Of a colony that does not clash no houses are short. -/
theorem short_none {c : Col} (hk : fitErr c = 0) {l : List Int} (hl : ∀ i, i < l.length → 0 ≤ nth l i ∧ nth l i < c.rooms.length) (hinc : incB l = true) : (shortV c l).2 = 8 := by
  obtain ⟨q, _⟩ := fit_parts hk
  have ok := okCol_of q
  have h6 : ∀ i, i < l.length → 0 ≤ nth l i ∧ nth l i < 6 := fun i hi => by have := hl i hi; have := ok.houses.2; omega
  have hse : shortErr c l = 0 := by
    unfold shortErr
    have ha : allHouse c l = true := by
      unfold allHouse
      rw [allB_iff]
      intro i hi
      have := hl i hi
      exact inB_of ⟨by omega, by omega⟩
    rw [if_pos q, ha]; rfl
  have hm : setTo l l.length < 64 := setTo_lt (fun i hi => by have := h6 i hi; omega) _ (Nat.le_refl _)
  have hn : shortN c l ≤ 0 := by
    unfold shortN
    rw [roomTo_set h6 (inc_all hinc) _ (Nat.le_refl _), ratsTo_is (needs_frm ok.houses.2) hm _ (Nat.le_refl _)]
    have h1 := fit_err ok q
    rw [hk] at h1
    have h2 : ¬ cutC (needsC c) (nth c.rooms) < totC c := fun h => by rw [if_pos h] at h1; cases h1
    have h3 := cut_le (needsC c) (nth c.rooms) (setTo l l.length).testBit
    have h4 := all_split (needsC c) (rats (needsC c)) (setTo l l.length).testBit
    have h5 : totC c = sumN (rats (needsC c)) (needsC c).length := rfl
    unfold elsewhere at h3
    omega
  unfold shortV
  rw [if_pos hse, if_pos hinc, if_pos hn]
/-- Houses are short by no more than what was caught in all nights. -/
theorem tot_sum (c : Col) : totC c = sumN (fun i => sumN (nth (nthR c.nights i)) c.rooms.length) c.nights.length := by
  have row : ∀ i, sumN (rats (needRow c i)) (needRow c i).length = sumN (nth (nthR c.nights i)) c.rooms.length := fun i => by
    have hl : (needRow c i).length = c.rooms.length := by unfold needRow; simp
    rw [hl]
    exact sumN_congr fun j hj => by unfold rats needRow nthP; simp [hj]
  have app : ∀ (a b : List (Int × Int)), sumN (rats (a ++ b)) (a ++ b).length = sumN (rats a) a.length + sumN (rats b) b.length := fun a b => by
    rw [List.length_append, sumN_append]
    congr 1
    · exact sumN_congr fun i hi => by unfold rats nthP; rw [List.getD_eq_getElem?_getD, List.getD_eq_getElem?_getD, List.getElem?_append_left hi]
    · exact sumN_congr fun i hi => by unfold rats nthP; rw [List.getD_eq_getElem?_getD, List.getD_eq_getElem?_getD, List.getElem?_append_right (by omega), Nat.add_sub_cancel_left]
  have key : ∀ k, sumN (rats (needsUp c k)) (needsUp c k).length = sumN (fun i => sumN (nth (nthR c.nights i)) c.rooms.length) k := by
    intro k
    induction k with
    | zero => rfl
    | succ k ih => rw [needsUp_succ, app, ih, row, sumN_succ]
  exact key _
theorem clash_few {c : Col} (h : fitErr c = 7) : (shortV c (clashV c)).1 ≤ totC c := by
  obtain ⟨q, ht⟩ := fit_7 h
  have ok := okCol_of q
  have e1 : clashErr c = 0 := by unfold clashErr; rw [if_pos q, ht]; rfl
  have e2 : clashV c = natsI (members (fitX c).short) := by unfold clashV; rw [e1]; rfl
  obtain ⟨hs64, _⟩ := (fit_fed ok).torn_short ht
  have hnn := needs_nonneg ok
  have h1 : ratsTo (needsC c) (setTo (clashV c) (clashV c).length) (needsC c).length ≤ totC c := by
    rw [e2, setTo_members hs64, ratsTo_is (needs_frm ok.houses.2) hs64 _ (Nat.le_refl _)]
    refine sumN_le fun o ho => ?_
    split
    · exact Int.le_refl _
    · exact hnn o ho
  have h2 : 0 ≤ roomTo c (clashV c) (clashV c).length := by
    rw [e2, roomTo_members]
    refine sumN_nonneg fun i hi => ?_
    split
    · exact (ok.rooms6 i hi).1
    · exact Int.le_refl _
  have h3 : 0 ≤ totC c := sumN_nonneg hnn
  unfold shortV
  split
  · split
    · split
      · exact h3
      · show shortN c (clashV c) ≤ _
        unfold shortN; omega
    · exact h3
  · exact h3
end Go.Proofs.Ytnhifinfjfpoiaa

namespace Go.Proofs.Ytnhifinfjfpoiaa
open Go.RowKit
set_option linter.unusedVariables false
set_option linter.unusedSimpArgs false

def ownCol (b5 p2 : Nat) (v2 : Value) (xs2 : List Int) (r t u nn : Value) (gr n : Nat) (f : Nat → Int) (Bt Bu Bn : Nat) (traps : List Int) (rs : List (Int × Int)) (nb : Nat → Nat) (N : List (List Int)) : List Part :=
  [pBlk b5 26 #[r, t, u, nn], pChute p2 v2 xs2, pInt gr n f, pRow Bt 3 1 n t (intsV traps), pRow Bu 63 2 rs.length u (pairsV rs), pRowsI Bn n nn nb N]
/-- A colony that is right but for its rooms, each from 0 to 60. -/
structure TightOk (n : Nat) (traps : List Int) (rs : List (Int × Int)) (N : List (List Int)) : Prop where
  base : ∃ rooms, rooms.length = n ∧ checkC ⟨rooms, traps, rs, N⟩ = 0
theorem TightOk.check {n : Nat} {traps : List Int} {rs : List (Int × Int)} {N : List (List Int)} (k : TightOk n traps rs N) {f : Nat → Int} (hf : ∀ i, i < n → 0 ≤ f i ∧ f i ≤ 60) : checkC ⟨(List.range n).map f, traps, rs, N⟩ = 0 := by
  obtain ⟨rooms, hl, hk⟩ := k.base
  subst hl
  exact rooms_check hk (by simp) (fun i hi => by rw [nth_ofRange f hi]; exact hf i hi)
theorem own_read {W : World} {t u nn : Value} {gr n cr Bt Bu Bn : Nat} {f : Nat → Int} {traps : List Int} {rs : List (Int × Int)} {nb : Nat → Nat} {N : List (List Int)} (hck : checkC ⟨(List.range n).map f, traps, rs, N⟩ = 0) (hcr : n ≤ cr)
    (p2 : (pInt gr n f).told W) (p3 : (pRow Bt 3 1 n t (intsV traps)).told W) (p4 : (pRow Bu 63 2 rs.length u (pairsV rs)).told W) (p5 : (pRowsI Bn n nn nb N).told W) : ColAt W W.heap.size (.slice (some ⟨gr, 0, none⟩) n cr) t u nn ⟨(List.range n).map f, traps, rs, N⟩ := by
  have k := okCol_of hck
  have hn : n ≤ 6 := by have := k.houses.2; simpa using this
  have ht : traps.length = n := by have := k.traps; simpa using this
  refine ⟨?_, ?_, ?_, ?_⟩
  · refine IntBlk.ints p2 hcr (by omega) (fun j hj => ?_)
    have this : 0 ≤ nth ((List.range n).map f) j ∧ nth ((List.range n).map f) j ≤ 60 := k.room j (by simpa using hj)
    rw [nth_ofRange f hj] at this
    show I64 (f j)
    unfold I64; omega
  · show IsInts W W.heap.size t traps
    have p3' : W.ownsRow Bt 3 1 t traps.length (intsV traps) := by rw [ht]; exact p3
    refine nums_of_owns p3' (fun x hx => ?_) (by omega)
    obtain ⟨i, hi, rfl⟩ := List.mem_iff_getElem.1 hx
    have := k.trap i (by simp; omega)
    have e : nth (⟨(List.range n).map f, traps, rs, N⟩ : Col).traps i = traps[i] := nth_eq hi
    rw [e] at this
    unfold I64; omega
  · show IsPairs W W.heap.size u rs
    refine pairs_of_owns p4 (fun q hq => ?_) (by have := k.runs; simp at this; omega)
    obtain ⟨i, hi, rfl⟩ := List.mem_iff_getElem.1 hq
    have := k.run i hi
    have e : nthP (⟨(List.range n).map f, traps, rs, N⟩ : Col).runs i = rs[i] := nthP_eq hi
    have e2 : (⟨(List.range n).map f, traps, rs, N⟩ : Col).rooms.length = n := by simp
    rw [e, e2] at this
    unfold I64; omega
  · show IsRows W W.heap.size nn N
    refine rows_of_part p5.1 (by omega) (by have := k.nights; simp at this; omega) (fun i j hi hj => ?_)
    have a := k.night i j hi (by simpa using hj)
    have b := k.trap j (by simpa using hj)
    have e : nth (nthR (⟨(List.range n).map f, traps, rs, N⟩ : Col).nights i) j = nth (nthR N i) j := rfl
    rw [e] at a
    unfold I64; omega
def TightAt (w : World) (n b5 p2 : Nat) (v2 : Value) (xs2 : List Int) (r t u nn : Value) (gr Bt Bu Bn : Nat) (traps : List Int) (rs : List (Int × Int)) (nb : Nat → Nat) (N : List (List Int)) (W : World) : Prop :=
  ∃ f, (∀ i, i < n → 0 ≤ f i ∧ f i ≤ 8) ∧ PW w W (ownCol b5 p2 v2 xs2 r t u nn gr n f Bt Bu Bn traps rs nb N)
/-- Some houses, told in increasing order. -/
structure SomeTo (h : Nat) (l : List Int) : Prop where
  inc : ∀ i j, i < j → j < l.length → nth l i < nth l j
  few : l.length ≤ h
  house : ∀ i, i < l.length → 0 ≤ nth l i ∧ nth l i < h
theorem SomeTo.nil : SomeTo 0 [] := ⟨fun i j _ hj => by simp at hj, Nat.le_refl _, fun i hi => by simp at hi⟩
theorem SomeTo.skip {h : Nat} {l : List Int} (I : SomeTo h l) : SomeTo (h + 1) l := ⟨I.inc, Nat.le_succ_of_le I.few, fun i hi => by have := I.house i hi; omega⟩
theorem SomeTo.more {h : Nat} {l : List Int} (I : SomeTo h l) : SomeTo (h + 1) (l ++ [(h : Int)]) := by
  refine ⟨fun i j hij hj => ?_, by simp; exact I.few, fun i hi => ?_⟩
  · have hj' : j ≤ l.length := by simp at hj; omega
    rw [nth_snoc (show i < l.length by omega)]
    by_cases e : j = l.length
    · rw [e, nth_last]; exact (I.house i (by omega)).2
    · rw [nth_snoc (by omega)]; exact I.inc i j hij (by omega)
  · by_cases e : i = l.length
    · rw [e, nth_last]; omega
    · have hi' : i < l.length := by simp at hi; omega
      rw [nth_snoc hi']; have := I.house i hi'; omega
theorem SomeTo.incB {h : Nat} {l : List Int} (I : SomeTo h l) : incB l = true := by
  unfold Go.Proofs.Ytnhifinfjfpoiaa.incB
  rw [allB_iff]
  intro i hi
  simpa using I.inc i (i + 1) (by omega) (by omega)
def SomeAt (w : World) (n b5 p2 : Nat) (v2 : Value) (xs2 : List Int) (r t u nn : Value) (gr : Nat) (f : Nat → Int) (Bt Bu Bn : Nat) (traps : List Int) (rs : List (Int × Int)) (nb : Nat → Nat) (N : List (List Int)) (h : Nat) (sv : Value) (W : World) : Prop :=
  ∃ l, SomeTo h l ∧ PW w W (ownCol b5 p2 v2 xs2 r t u nn gr n f Bt Bu Bn traps rs nb N ++ [pRow w.heap.size 3 1 l.length sv (intsV l)])
/-- A colony of one's own behind Made. -/
def TightBegin (w : World) (b5 p2 : Nat) (v2 : Value) (xs2 : List Int) (W : World) : Prop :=
  ∃ n gr cr a6 q6 a7 q7 a8 q8 B2 B3 B4 traps rs nb N, 0 < n ∧ n ≤ 6 ∧ n ≤ cr ∧ TightOk n traps rs N ∧ TightAt w n b5 p2 v2 xs2 (.slice (some ⟨gr, 0, none⟩) n cr) (.slice a6 n q6) (.slice a7 rs.length q7) (.slice a8 N.length q8) gr B2 B3 B4 traps rs nb N W
def Box2' (b5 gr h : Nat) (rv x : Value) (W : World) : Prop := W.cell? ⟨b5, 0, none⟩ = some rv ∧ W.cell? ⟨gr, h, none⟩ = some x

set_option maxRecDepth 100000 in
set_option maxHeartbeats 4000000 in
theorem ratTight_any (v1 v2 : Value) (xs1 xs2 : List Int) (w : World) (h1 : IsBytes w w.heap.size v1 xs1) (h2 : IsBytes w w.heap.size v2 xs2) :
    Calls Try.prog 7 #[v1, v2] w fun e w' => e = .returned (.bool true) ∧ Below w.heap.size w w' := by
  have HB := Lib.hid (And.intro h1 h2)
  clear h1 h2
  go_enter Try.func7, Try.ntmps7
  go_wp2_with fail
  refine (fill_any v1 xs1 w HB.out.1).mono ?_
  rintro e w1 ⟨rfl, hc1, hb1, hz1⟩
  have HP1 := Lib.hid ((PW.start w).fill hc1 hb1)
  obtain ⟨p1, hp1⟩ : ∃ p1, w.heap.size = p1 := ⟨_, rfl⟩
  have hP1 := HP1.out
  rw [hp1] at hP1
  have HP1 := Lib.hid hP1
  rw [hp1]
  clear hc1 hb1 hz1 hP1 hp1
  go_wp2_with fail
  refine (made_any p1 v1 xs1 5 4 w1 (HP1.out.chute 0 rfl HB.out.1) (by omega) (by omega)).mono ?_
  rintro e w2 ⟨r, t, u, nv, cv, lv, fv, rooms, traps, rs, k, N, T, M, L, left, rfl, hI, hcol, hT, hL, hF, hc2, ht2, nbN, nbT, bL, Lf, rfl, hLf, hsep⟩
  have HI := Lib.hid hI
  have HP2 := Lib.hid (((HP1.out.made 0 rfl hc2 ht2 hsep).newBlk 26 #[r, t, u, nv]).newBlk 55 #[cv, .slice (some ⟨bL, 0, none⟩) rooms.length rooms.length])
  have hn0 : 0 < rooms.length := hI.made.many.1
  have hn5 : (rooms.length : Int) ≤ 5 := hI.few
  obtain ⟨ar, qr, rfl⟩ := owns_slice (hsep.at 0 rfl)
  obtain ⟨at_, qt, rfl⟩ := owns_slice (hsep.at 1 rfl)
  obtain ⟨au, qu, rfl⟩ := owns_slice (hsep.at 2 rfl)
  obtain ⟨⟨fsN, hoN, _⟩, _⟩ : (pRows w1.heap.size rooms.length nv nbN N).told w2 := hsep.at 3 rfl
  obtain ⟨⟨fsT, hoT, _⟩, _⟩ : (pRows w1.heap.size rooms.length cv nbT T).told w2 := hsep.at 4 rfl
  obtain ⟨an, qn, rfl⟩ := owns_slice hoN
  obtain ⟨ac, qc, rfl⟩ := owns_slice hoT
  obtain ⟨al, ql, rfl⟩ := owns_slice (hsep.at 6 rfl)
  have HC2 := Lib.hid hcol
  clear hI hcol hT hL hF hc2 ht2 hLf hsep hoN hoT
  go_wp2_with fail
  obtain ⟨W3, hW3⟩ : ∃ W3, (w2.alloc (.cells #[.slice ar rooms.length qr, .slice at_ rooms.length qt, .slice au rs.length qu, .slice an N.length qn] 26)).alloc (.cells #[.slice ac T.length qc, .slice (some ⟨bL, 0, none⟩) rooms.length rooms.length] 55) = W3 := ⟨_, rfl⟩
  obtain ⟨b5, hb5⟩ : ∃ b5, w2.heap.size = b5 := ⟨_, rfl⟩
  have hP2 := HP2.out
  have hcol3 : ColAt W3 W3.heap.size (.slice ar rooms.length qr) (.slice at_ rooms.length qt) (.slice au rs.length qu) (.slice an N.length qn) ⟨rooms, traps, rs, N⟩ := by
    rw [← hW3]
    exact (HC2.out.below (((Below.refl _ _).alloc (Nat.le_refl _) _).alloc (by simp) _) (Nat.le_refl _)).mono (by simp; omega)
  rw [hW3, hb5] at hP2
  rw [hW3]
  have HP3 := Lib.hid hP2
  have HC3 := Lib.hid hcol3
  have hb6 : ∃ b6, w2.heap.size + 1 = b6 := ⟨_, rfl⟩
  obtain ⟨b6, hb6⟩ := hb6
  rw [hb5] at hb6
  rw [hb5]
  (try rw [hb6])
  clear hW3 hP2 hcol3 HC2 HP2 hb5
  refine (fill_any v2 xs2 W3 ⟨(HB.out.2.1.below HP3.out.low (Nat.le_refl _)).mono HP3.out.size, HB.out.2.2⟩).mono ?_
  rintro e w4 ⟨rfl, hc4, hb4, hz4⟩
  have HP4 := Lib.hid (HP3.out.fill hc4 hb4)
  have HC4 := Lib.hid ((HC3.out.below hb4 (Nat.le_refl _)).mono hb4.size)
  obtain ⟨p2, hp2⟩ : ∃ p2, W3.heap.size = p2 := ⟨_, rfl⟩
  rw [hp2] at HP4 ⊢
  obtain ⟨c0, c1, c2, c3⟩ := four_at (HP4.out.at 8 rfl)
  have HOK := Lib.hid (show OwnOk rooms.length ⟨rooms, traps, rs, N⟩ from ⟨hn0, rfl, HI.out.made.trapN, by have := HI.out.made.few; show rs.length ≤ 100; omega, by have := HI.out.caught.lenN; have := HI.out.nights; show N.length ≤ 100; omega, by have := HI.out.made.many.2; omega, fun j hj => HI.out.caught.rowN j (by rw [← HI.out.caught.lenN]; exact hj)⟩)
  clear hc4 hb4 hz4 hp2 HP3 HC3
  go_upto_region 3 with (fail)
  go_cut [] (fun wx => Hid (TightBegin w b5 p2 v2 xs2 wx))
  case first =>
   go_wp2_with fail
   refine (ownSep_any rooms.length ⟨rooms, traps, rs, N⟩ _ _ _ _ w4 HC4.out HOK.out).mono ?_
   rintro e w5 ⟨r2, t2, u2, nn2, B1, B2, B3, B4, nb2, rfl, hB1, hB2, hB3, hB4, hs5, hb5⟩
   have s5 := HP4.out.both hb5 hs5
   obtain ⟨a6, q6, rfl⟩ := owns_slice (s5.at 12 rfl)
   obtain ⟨a7, q7, rfl⟩ := owns_slice (s5.at 13 rfl)
   obtain ⟨⟨⟨fs8, ho8, _⟩, _⟩, _⟩ : (pRowsI B4 rooms.length nn2 nb2 N).told w5 := s5.at 14 rfl
   obtain ⟨a8, q8, rfl⟩ := owns_slice ho8
   obtain ⟨gr, cr, rfl, hcr, _⟩ := int_row_cells (s5.at 11 rfl) rfl hn0
   have k0 := (four_at (s5.at 8 rfl)).1
   have f0 := box_free (s5.at 8 rfl) 0
   have s6 := s5.setBlk 8 rfl 0 (.slice (some ⟨gr, 0, none⟩) rooms.length cr)
   have k1 := (four_at (s6.at 8 rfl)).2.1
   have f1 := box_free (s6.at 8 rfl) 1
   have s7 := s6.setBlk 8 rfl 1 (.slice a6 rooms.length q6)
   have k2 := (four_at (s7.at 8 rfl)).2.2.1
   have f2 := box_free (s7.at 8 rfl) 2
   have s8 := s7.setBlk 8 rfl 2 (.slice a7 rs.length q7)
   have k3 := (four_at (s8.at 8 rfl)).2.2.2
   have f3 := box_free (s8.at 8 rfl) 3
   have HP5 := Lib.hid (((s8.setBlk 8 rfl 3 (.slice a8 N.length q8)).rowInt 11 rfl rfl).pick [8, 10, 11, 12, 13, 14] (by decide) (ps' := ownCol b5 p2 v2 xs2 (.slice (some ⟨gr, 0, none⟩) rooms.length cr) (.slice a6 rooms.length q6) (.slice a7 rs.length q7) (.slice a8 N.length q8) gr rooms.length (nth rooms) B2 B3 B4 traps rs nb2 N) rfl)
   clear s5 s6 s7 s8 ho8 hs5 hb5 c0 c1 c2 c3
   go_wp2_with fail
   clear k0 k1 k2 k3 f0 f1 f2 f3
   have HTK := Lib.hid (show TightOk rooms.length traps rs N from ⟨rooms, rfl, HI.out.check (by omega)⟩)
   have hn6 := HI.out.made.many.2
   have HRM := Lib.hid HI.out.made.roomB
   clear hB1 hB2 hB3 hB4
   have HST : Hid (TightAt w rooms.length b5 p2 v2 xs2 (.slice (some ⟨gr, 0, none⟩) rooms.length cr) (.slice a6 rooms.length q6) (.slice a7 rs.length q7) (.slice a8 N.length q8) gr B2 B3 B4 traps rs nb2 N _) := ⟨_, HRM.out, HP5.out⟩
   clear HRM HP5
   go_meet
   exact ⟨rooms.length, gr, cr, a6, q6, a7, q7, a8, q8, B2, B3, B4, traps, rs, nb2, N, hn0, hn6, hcr, HTK.out, HST.out⟩
  case rest =>
  obtain ⟨n, gr, cr, a6, q6, a7, q7, a8, q8, B2, B3, B4, traps, rs, nb2, N, hn0, hn6, hcr, htk, hst⟩ := hcut.out
  have HTK := Lib.hid htk
  have HST := Lib.hid hst
  clear htk hst hcut HI HP1 HP4 HC4 HOK
  go_wp2_with fail
  go_loopw [34] (fun i wr => ∃ c : Nat, c ≤ 5 ∧ i = .int .i64 c ∧ Hid (TightAt w n b5 p2 v2 xs2 (.slice (some ⟨gr, 0, none⟩) n cr) (.slice a6 n q6) (.slice a7 rs.length q7) (.slice a8 N.length q8) gr B2 B3 B4 traps rs nb2 N wr)) (fun i _ => 5 - (intOf i).toNat)
  case atStart => exact ⟨0, by omega, rfl, HST⟩
  case round =>
    obtain ⟨c, hc, rfl, HR⟩ := hrel
    by_cases hlt : c < 5
    · have hci : (c : Int) < 5 := by omega
      obtain ⟨f, hf, hP⟩ := HR.out
      have HF := Lib.hid hf
      have HP := Lib.hid hP
      have k0 := (four_at (hP.at 0 rfl)).1
      clear hf hP HR HST
      go_wp2_with fail
      refine (pull_any p2 v2 xs2 n wr (HP.out.chute 1 rfl HB.out.2) (by omega) (by omega)).mono ?_
      rintro e w6 ⟨x, rfl, x0, x1, hc6, ht6⟩
      obtain ⟨h, rfl⟩ : ∃ h : Nat, x = h := ⟨x.toNat, by omega⟩
      have hh : h < n := by omega
      have hhi : (h : Int) < n := by omega
      have HP6 := Lib.hid (HP.out.turn 1 rfl hc6 ht6)
      clear hc6 ht6 k0 x1
      go_upto_region 7 with (fail)
      go_cut [] (fun wx => Hid (TightAt w n b5 p2 v2 xs2 (.slice (some ⟨gr, 0, none⟩) n cr) (.slice a6 n q6) (.slice a7 rs.length q7) (.slice a8 N.length q8) gr B2 B3 B4 traps rs nb2 N wx))
      case first =>
       have HD := Lib.hid HP6.out.drew
       have hfh := HF.out h hh
       obtain ⟨fh, hfe⟩ : ∃ fh, f h = fh := ⟨_, rfl⟩
       have hC : Box2' b5 gr h (.slice (some ⟨gr, 0, none⟩) n cr) (.int .i64 fh) w6.drew := ⟨(four_at (HD.out.at 0 rfl)).1, by rw [← hfe]; exact IntBlk.cell (HD.out.at 2 rfl) hh⟩
       rw [hfe] at hfh
       have HFE := Lib.hid hfe
       clear hfe
       refine wp_region_noPanic ?_
       refine anyL_start (S := Till [13] (Box2' b5 gr h (.slice (some ⟨gr, 0, none⟩) n cr) (.int .i64 fh))) (by kernel_rfl) (fun _ => hC) (fun hT => ?_)
       refine takeL0 (i := 0) (d := 41) (v := ?_) rfl rfl (by kernel_rfl) (by kernel_rfl) (by kernel_rfl) (by kernel_rfl) (fun _ _ _ _ _ h => h) (by rfl) ?_ (fun _ => hC) ?_
       rotate_left
       · intro w
         go_simp
         try with_reducible rfl
       (try simp only [Act.put, List.setIfInBounds_toArray, List.set_cons_zero, List.set_cons_succ])
       refine takeL0 (i := 2) (d := 43) (v := ?_) rfl rfl (by kernel_rfl) (by kernel_rfl) (by kernel_rfl) (by kernel_rfl) (fun _ _ _ _ _ h => h) (by rfl) ?_ (fun _ => hC) ?_
       rotate_left
       · intro w
         go_simp
         try with_reducible rfl
       (try simp only [Act.put, List.setIfInBounds_toArray, List.set_cons_zero, List.set_cons_succ])
       refine takeL0 (i := 3) (d := 44) (v := ?_) rfl rfl (by kernel_rfl) (by kernel_rfl) (by kernel_rfl) (by kernel_rfl) (fun _ _ _ _ _ h => h) (by rfl) ?_ (fun _ => hC) ?_
       rotate_left
       · intro w
         go_simp
         try with_reducible rfl
       (try simp only [Act.put, List.setIfInBounds_toArray, List.set_cons_zero, List.set_cons_succ])
       refine takeL0 (i := 5) (d := 46) (v := ?_) rfl rfl (by kernel_rfl) (by kernel_rfl) (by kernel_rfl) (by kernel_rfl) (fun _ _ _ _ _ h => h) (by rfl) ?_ (fun _ => hC) ?_
       rotate_left
       · intro w
         go_simp
         try with_reducible rfl
       (try simp only [Act.put, List.setIfInBounds_toArray, List.set_cons_zero, List.set_cons_succ])
       refine takeL0 (i := 8) (d := 49) (v := ?_) rfl rfl (by kernel_rfl) (by kernel_rfl) (by kernel_rfl) (by kernel_rfl) (fun _ _ _ _ _ h => h) (by rfl) ?_ (fun _ => hC) ?_
       rotate_left
       · intro w
         go_simp
         try with_reducible rfl
       (try simp only [Act.put, List.setIfInBounds_toArray, List.set_cons_zero, List.set_cons_succ])
       refine takeL (i := 1) (d := 42) (v := ?_) rfl rfl (by kernel_rfl) (by kernel_rfl) (by kernel_rfl) (by kernel_rfl) (by kernel_rfl) (by kernel_rfl) (fun _ _ _ _ _ h => h) (by rfl) ?_ hC ?_
       rotate_left
       · intro w hSw
         (try dsimp only at hSw)
         obtain ⟨hS0, hS1⟩ := hSw
         go_simp
         try with_reducible rfl
       (try simp only [Act.put, List.setIfInBounds_toArray, List.set_cons_zero, List.set_cons_succ])
       refine takeL (i := 4) (d := 45) (v := ?_) rfl rfl (by kernel_rfl) (by kernel_rfl) (by kernel_rfl) (by kernel_rfl) (by kernel_rfl) (by kernel_rfl) (fun _ _ _ _ _ h => h) (by rfl) ?_ hC ?_
       rotate_left
       · intro w hSw
         (try dsimp only at hSw)
         obtain ⟨hS0, hS1⟩ := hSw
         go_simp
         try with_reducible rfl
       (try simp only [Act.put, List.setIfInBounds_toArray, List.set_cons_zero, List.set_cons_succ])
       refine takeL0 (i := 6) (d := 47) (v := ?_) rfl rfl (by kernel_rfl) (by kernel_rfl) (by kernel_rfl) (by kernel_rfl) (fun _ _ _ _ _ h => h) (by rfl) ?_ (fun _ => hC) ?_
       rotate_left
       · intro w
         go_simp
         try with_reducible rfl
       (try simp only [Act.put, List.setIfInBounds_toArray, List.set_cons_zero, List.set_cons_succ])
       refine takeL (i := 7) (d := 48) (v := ?_) rfl rfl (by kernel_rfl) (by kernel_rfl) (by kernel_rfl) (by kernel_rfl) (by kernel_rfl) (by kernel_rfl) (fun _ _ _ _ _ h => h) (by rfl) ?_ hC ?_
       rotate_left
       · intro w hSw
         (try dsimp only at hSw)
         obtain ⟨hS0, hS1⟩ := hSw
         go_simp
         try with_reducible rfl
       (try simp only [Act.put, List.setIfInBounds_toArray, List.set_cons_zero, List.set_cons_succ])
       refine nextL (i := 9) rfl (by kernel_rfl) (fun K hK => ?_)
       go_simp
       refine (pull_any p2 v2 xs2 3 w6.drew (HD.out.chute 1 rfl HB.out.2) (by omega) (by omega)).mono ?_
       rintro e w7 ⟨y, rfl, y0, y1, hc7, ht7⟩
       have HP7 := Lib.hid (HD.out.turn 1 rfl hc7 ht7)
       clear hc7 ht7 hC
       have hC : Box2' b5 gr h (.slice (some ⟨gr, 0, none⟩) n cr) (.int .i64 fh) w7 := ⟨(four_at (HP7.out.at 0 rfl)).1, by rw [← HFE.out]; exact IntBlk.cell (HP7.out.at 2 rfl) hh⟩
       have hws : IntKind.i64.wrap (fh - y) = fh - y := by rw [IntKind.wrap_i64]; omega
       go_simp
       refine hK.out _ _ (fun _ => hC) ?_
       clear hK K
       (try simp only [Act.put, List.setIfInBounds_toArray, List.set_cons_zero, List.set_cons_succ])
       refine takeL0 (i := 10) (d := 51) (v := ?_) rfl rfl (by kernel_rfl) (by kernel_rfl) (by kernel_rfl) (by kernel_rfl) (fun _ _ _ _ _ h => h) (by rfl) ?_ (fun _ => hC) ?_
       rotate_left
       · intro w
         go_simp
         try with_reducible rfl
       (try simp only [Act.put, List.setIfInBounds_toArray, List.set_cons_zero, List.set_cons_succ])
       refine takeL0 (i := 11) (d := 52) (v := ?_) rfl rfl (by kernel_rfl) (by kernel_rfl) (by kernel_rfl) (by kernel_rfl) (fun _ _ _ _ _ h => h) (by rfl) ?_ (fun _ => hC) ?_
       rotate_left
       · intro w
         go_simp
         try with_reducible rfl
       (try simp only [Act.put, List.setIfInBounds_toArray, List.set_cons_zero, List.set_cons_succ])
       refine takeL0 (i := 12) (d := 53) (v := ?_) rfl rfl (by kernel_rfl) (by kernel_rfl) (by kernel_rfl) (by kernel_rfl) (fun _ _ _ _ _ h => h) (by rfl) ?_ (fun _ => hC) ?_
       rotate_left
       · intro w
         go_simp
         try with_reducible rfl
       (try simp only [Act.put, List.setIfInBounds_toArray, List.set_cons_zero, List.set_cons_succ])
       refine nextL (i := 13) rfl (by kernel_rfl) (fun K hK => ?_)
       have hcx := hC.2
       have hfx := IntBlk.free (HP7.out.at 2 rfl) h
       have HP8 := Lib.hid (HP7.out.setInt 2 rfl hh (if y < fh then fh - y else 0))
       go_simp
       obtain ⟨fx, hfe2⟩ : ∃ fx, (if y < fh then fh - y else 0) = fx := ⟨_, rfl⟩
       have hfb : 0 ≤ fx ∧ fx ≤ 8 := by rw [← hfe2]; split <;> omega
       rw [hfe2] at HP8 ⊢
       clear hcx hfx hC hfe2
       refine hK.out _ _ (Till.done (by kernel_rfl)) ?_
       clear hK K
       (try simp only [Act.put, List.setIfInBounds_toArray, List.set_cons_zero, List.set_cons_succ])
       refine anyL_done (by kernel_rfl) ?_ _
       refine NoPanic.normal ?_
       go_wp2_with fail
       go_meet
       refine ⟨_, fun i hi => ?_, HP8.out⟩
       show 0 ≤ (if i = h then fx else f i) ∧ (if i = h then fx else f i) ≤ 8
       by_cases e : i = h
       · rw [if_pos e]; exact hfb
       · rw [if_neg e]; exact HF.out i hi
      case rest =>
      have HR2 := hcut
      clear hcut HF HP HP6
      obtain ⟨f, hf, hP⟩ := HR2.out
      have hck := HTK.out.check (f := f) (fun i hi => by have := hf i hi; omega)
      have HCK := Lib.hid hck
      have HF := Lib.hid hf
      have HP := Lib.hid hP
      have hcol : ∀ W, PW w W (ownCol b5 p2 v2 xs2 (.slice (some ⟨gr, 0, none⟩) n cr) (.slice a6 n q6) (.slice a7 rs.length q7) (.slice a8 N.length q8) gr n f B2 B3 B4 traps rs nb2 N) → ColAt W W.heap.size (.slice (some ⟨gr, 0, none⟩) n cr) (.slice a6 n q6) (.slice a7 rs.length q7) (.slice a8 N.length q8) ⟨(List.range n).map f, traps, rs, N⟩ := fun W H =>
        own_read hck hcr (H.at 2 rfl) (H.at 3 rfl) (H.at 4 rfl) (H.at 5 rfl)
      have HCOL := Lib.hid hcol
      obtain ⟨C, hCe⟩ : ∃ C : Col, (⟨(List.range n).map f, traps, rs, N⟩ : Col) = C := ⟨_, rfl⟩
      have HCE := Lib.hid hCe
      rw [hCe] at HCOL HCK
      obtain ⟨k0, k1, k2, k3⟩ := four_at (hP.at 0 rfl)
      clear hck hf hP HR2 hcol hCe
      go_wp2_with fail
      refine (rats_ask C _ _ _ _ wc (HCOL.out _ HP.out)).mono ?_
      rintro e w8 ⟨rfl, hb8⟩
      have HP8 := Lib.hid ((HP.out.below hb8).alloc (.cells #[.int .i64 (ratsA C).1, .int .i64 (ratsA C).2] 49))
      clear hb8 k0 k1 k2 k3 HP
      obtain ⟨k0, k1, k2, k3⟩ := four_at (HP8.out.at 0 rfl)
      go_wp2_with fail
      refine (clash_ask C _ _ _ _ _ (HCOL.out _ HP8.out)).mono ?_
      rintro e w9 ⟨lv, rfl, hl9, hb9⟩
      have HP9 := Lib.hid (HP8.out.below hb9)
      have HL9 := Lib.hid hl9
      clear hb9 k0 k1 k2 k3 hl9
      go_upto_region 10 with (fail)
      by_cases hk : fitErr C = 0
      · obtain ⟨ec, ev⟩ := clash_0 hk
        rw [hk, ec]
        have HK := Lib.hid hk
        clear ec ev hk HL9 HP8
        have k0 := (four_at (HP9.out.at 0 rfl)).1
        go_wp2_with fail
        obtain ⟨wo1, rfl⟩ : ∃ wo1 : World, wo1 = wr := ⟨_, rfl⟩
        go_loopw [107] (fun i wq => ∃ d : Nat, d ≤ 3 ∧ i = .int .i64 d ∧ Hid (PW w wq (ownCol b5 p2 v2 xs2 (.slice (some ⟨gr, 0, none⟩) n cr) (.slice a6 n q6) (.slice a7 rs.length q7) (.slice a8 N.length q8) gr n f B2 B3 B4 traps rs nb2 N))) (fun i _ => 3 - (intOf i).toNat)
        case atStart => exact ⟨0, by omega, rfl, HP9.out⟩
        case round =>
          obtain ⟨d, hd, rfl, HR⟩ := hrel
          by_cases hd3 : d < 3
          · have hdi : (d : Int) < 3 := by omega
            clear k0
            have k0 := (four_at (HR.out.at 0 rfl)).1
            go_wp2_with fail
            obtain ⟨wo2, rfl⟩ : ∃ wo2 : World, wo2 = wr := ⟨_, rfl⟩
            go_loopw [19, 112] (fun sv i wq => ∃ h : Nat, h ≤ n ∧ i = .int .i64 h ∧ Hid (SomeAt w n b5 p2 v2 xs2 (.slice (some ⟨gr, 0, none⟩) n cr) (.slice a6 n q6) (.slice a7 rs.length q7) (.slice a8 N.length q8) gr f B2 B3 B4 traps rs nb2 N h sv wq)) (fun _ i _ => n - (intOf i).toNat)
            case atStart => exact ⟨0, Nat.zero_le _, rfl, [], SomeTo.nil, HR.out.newRow _ _ _⟩
            case round =>
              obtain ⟨h, hh, rfl, HQ⟩ := hrel
              by_cases hhn : h < n
              · have hhi : (h : Int) < n := by omega
                obtain ⟨l, hl, hP⟩ := HQ.out
                have HL := Lib.hid hl
                have HP := Lib.hid hP
                have hfew := hl.few
                clear hl hP HQ k0
                go_wp2_with fail
                refine (chuteIn_any p2 v2 xs2 2 wr (HP.out.chute 1 rfl HB.out.2) (by omega) (by omega)).mono ?_
                rintro e w6 ⟨b, rfl, hc6, ht6⟩
                have HP6 := Lib.hid (HP.out.turn 1 rfl hc6 ht6)
                clear hc6 ht6
                cases b
                · go_wp2_with fail
                  go_roundw
                  case rel => exact ⟨h + 1, by omega, by go_num, l, HL.out.skip, HP6.out⟩
                  case measure => simp [intOf]; omega
                · have HP7 := Lib.hid (HP6.out.alloc (.cells #[.int .i64 h] 3))
                  go_wp2_with (at_builtin; refine HP7.out.list_int 6 l h rfl HP7.out.size (by omega) rfl _ _ rfl rfl w6.heap.size rfl (cell_one_new _ _ _) ?_)
                  intro g7 cap7 w7 hm7 _ _
                  have HP8 := Lib.hid hm7
                  clear hm7
                  go_wp2_with fail
                  go_roundw
                  case rel => exact ⟨h + 1, by omega, by go_num, l ++ [(h : Int)], HL.out.more, by rw [List.length_append]; exact HP8.out⟩
                  case measure => simp [intOf]; omega
              · obtain rfl : n = h := by omega
                obtain ⟨l, hl, hP⟩ := HQ.out
                have HL := Lib.hid hl
                have HP := Lib.hid hP
                have hi : IsInts wr wr.heap.size u19 l := nums_of_owns (hP.at 6 rfl) (fun x hx => by
                  obtain ⟨i, hi, rfl⟩ := List.mem_iff_getElem.1 hx
                  have := hl.house i hi
                  rw [nth_eq hi] at this
                  unfold I64; omega) (by have := hl.few; omega)
                have hsn : (shortV C l).2 = 8 := short_none HK.out (fun i hi => by
                  have := hl.house i hi
                  rw [← HCE.out]
                  simpa using this) hl.incB
                have HI := Lib.hid hi
                have HSN := Lib.hid hsn
                obtain ⟨k1, k2, k3, k4⟩ := four_at (hP.at 0 rfl)
                clear hl hP HQ hi hsn k0
                go_wp2_with fail
                refine (short_ask C _ _ _ _ _ l wr (HCOL.out _ (HP.out.left (qs := [_]))) HI.out).mono ?_
                rintro e w6 ⟨rfl, hb6⟩
                rw [HSN.out]
                have HP6 := Lib.hid ((HP.out.below hb6).left (qs := [_]))
                clear hb6 k1 k2 k3 k4
                go_wp2_with fail
                go_roundw
                case rel => exact ⟨d + 1, by omega, by go_num, HP6.out⟩
                case measure => simp [intOf]; omega
          · obtain rfl : d = 3 := by omega
            go_wp2_with fail
            go_roundw
            case rel => exact ⟨c + 1, by omega, by go_num, f, HF.out, HR.out⟩
            case measure => simp [intOf]; omega
      · have h7 : fitErr C = 7 := (fit_or HCK.out).resolve_left hk
        obtain ⟨ec, es, e1⟩ := clash_short h7
        have efew := clash_few h7
        rw [h7, ec]
        obtain ⟨sn, hsn⟩ : ∃ sn, (shortV C (clashV C)).1 = sn := ⟨_, rfl⟩
        rw [hsn] at e1 efew
        have HSV := Lib.hid (And.intro es hsn)
        have htot : totC C = sumN (fun i => sumN (nth (nthR N i)) n) N.length := by
          rw [tot_sum, ← HCE.out]
          simp
        rw [htot] at efew
        have HEF := Lib.hid efew
        have hok := okCol_of HCK.out
        rw [← HCE.out] at hok
        have hNb : ∀ i j, i < N.length → j < n → 0 ≤ nth (nthR N i) j ∧ nth (nthR N i) j ≤ 9 := fun i j hi hj => by
          have a := hok.night i j hi (by simpa using hj)
          have b := hok.trap j (by simpa using hj)
          have e : nth (nthR (⟨(List.range n).map f, traps, rs, N⟩ : Col).nights i) j = nth (nthR N i) j := rfl
          rw [e] at a
          omega
        have hNl : N.length ≤ 6 := hok.nights
        have HNB := Lib.hid hNb
        obtain ⟨k1, k2, k3, k4⟩ := four_at (HP9.out.at 0 rfl)
        clear ec es hk h7 hsn htot efew hok hNb
        go_wp2_with fail
        refine (short_ask C _ _ _ _ _ (clashV C) _ (HCOL.out _ HP9.out) HL9.out).mono ?_
        rintro e w10 ⟨rfl, hb10⟩
        rw [HSV.out.1, HSV.out.2]
        have HP10 := Lib.hid (HP9.out.below hb10)
        clear hb10 k1 k2 k3 k4
        have k4 := (four_at (HP10.out.at 0 rfl)).2.2.2
        go_wp2_with fail
        obtain ⟨wo1, rfl⟩ : ∃ wo1 : World, wo1 = wr := ⟨_, rfl⟩
        clear k4
        go_loopw [16, 87] (fun sv i wq => ∃ k : Nat, k ≤ N.length ∧ i = .int .i64 k ∧ sv = .int .i64 (sumN (fun i => sumN (nth (nthR N i)) n) k) ∧ w10 = wq) (fun _ i _ => N.length - (intOf i).toNat)
        case atStart => exact ⟨0, Nat.zero_le _, rfl, rfl, rfl⟩
        case round =>
          obtain ⟨k, hk, rfl, rfl, rfl⟩ := hrel
          by_cases hkn : k < N.length
          · have hki : (k : Int) < N.length := by omega
            obtain ⟨b8, c8, rfl, hc8, m1, hB⟩ := rows_at (HP10.out.at 5 rfl) hkn
            have hsb : ∀ i, i < N.length → 0 ≤ sumN (nth (nthR N i)) n ∧ sumN (nth (nthR N i)) n ≤ 9 * n := fun i hi => ⟨sumN_nonneg fun j hj => (HNB.out i j hi hj).1, sumN_bound fun j hj => (HNB.out i j hi hj).2⟩
            have hs1 := hsb k hkn
            have hs2 : 0 ≤ sumN (fun i => sumN (nth (nthR N i)) n) k := sumN_nonneg fun i hi => (hsb i (by omega)).1
            have hs3 : sumN (fun i => sumN (nth (nthR N i)) n) k ≤ 54 * k := sumN_bound fun i hi => by have := (hsb i (by omega)).2; omega
            have HB8 := Lib.hid hB
            obtain ⟨sk, hsk⟩ : ∃ sk, sumN (fun i => sumN (nth (nthR N i)) n) k = sk := ⟨_, rfl⟩
            obtain ⟨rk, hrk⟩ : ∃ rk, sumN (nth (nthR N k)) n = rk := ⟨_, rfl⟩
            rw [hsk] at hs2 hs3
            rw [hrk] at hs1
            rw [hsk]
            have HSK := Lib.hid (And.intro hsk hrk)
            have hwk : IntKind.i64.wrap (sk + rk) = sk + rk := by rw [IntKind.wrap_i64]; omega
            clear hB hsb hsk hrk
            go_wp2_with fail
            refine (total_any (nb2 k) n c8 (nth (nthR N k)) w10 HB8.out (by omega) (fun j hj => by have := HNB.out k j hkn hj; omega)).mono ?_
            rintro e w11 ⟨rfl, rfl⟩
            rw [sumT_eq, HSK.out.2]
            go_wp2_with fail
            go_roundw
            case rel => exact ⟨k + 1, by omega, by go_num, by rw [sumN_succ, HSK.out.1, HSK.out.2], by simp⟩
            case measure => simp [intOf]; omega
          · obtain rfl : k = N.length := by omega
            have hef := HEF.out
            obtain ⟨sk, hsk⟩ : ∃ sk, sumN (fun i => sumN (nth (nthR N i)) n) N.length = sk := ⟨_, rfl⟩
            rw [hsk] at hef ⊢
            have hsn1 : ¬ sn < 1 := by omega
            have hsn2 : ¬ sk < sn := by omega
            clear hsk
            go_wp2_with fail
            go_roundw
            case rel => exact ⟨c + 1, by omega, by go_num, f, HF.out, HP10.out⟩
            case measure => simp [intOf]; omega
    · obtain rfl : c = 5 := by omega
      have HPL : Hid (Below w.heap.size w wr) := by obtain ⟨f, _, hP⟩ := HR.out; exact hP.low
      clear HR HST
      go_wp2_with fail
      refine (awake_any wr).mono ?_
      rintro e w6 ⟨rfl, hb6⟩
      go_wp2_with fail
      go_ret
      exact ⟨rfl, HPL.out.trans (hb6.mono HPL.out.size)⟩
end Go.Proofs.Ytnhifinfjfpoiaa

namespace Go.Proofs.Ytnhifinfjfpoiaa
open Go.RowKit Go.ChangeShapes Go.WideShapes Go.ChangeAt

theorem ownKnob_none : ownKnob Try.prog.godebug = none := by kernel_rfl
theorem laidOut_yes : laidOutB Try.prog = true := by kernel_rfl

set_option maxRecDepth 100000 in
theorem ratTight_lifted (os : Os) (started : os.Started) (H : Type) (enc : TypeId × Value → H) :
    ReturnsInHanded {} Try.checked os 7 .any (Rows.ratTightSpec.pre6 enc Try.prog Try.f7 Rows.ratTightRow.domain false) (Rows.ratTightSpec.post enc Try.prog Try.f7 false true false false) := by
  refine returnsInHanded_of_change_sized (C := Try.checked) ownKnob_none started (by kernel_rfl) Try.func7
    (ChangeSpec.witness6 (enc := enc) (C := Try.checked) false ⟨#[], #[.slice none 0 0, .slice none 0 0], []⟩ 8 (by kernel_rfl) (by kernel_rfl) (by kernel_rfl) (by kernel_rfl)) ?_
  intro W base args ds gs before hval0 hW0 _ hsz0 _
  have hval : ∀ (j : Nat) t v, Try.f7.params[j]? = some t → args[j]? = some v → Value.okWide Try.prog W .any base t v := hval0
  have hsz : (DataW.weightsEach Try.prog (Try.f7.params.toList ++ Rows.ratTightSpec.plain.varTypes Try.prog) (ds ++ gs)).all (· ≤ reachBytes) = true := hsz0
  have hW := hW0
  obtain ⟨p, q, hA0, hV, rfl, hfz, hnd⟩ := hW
  have hA : DataW.TrodAll enc Try.prog W 0 (fun _ => true) true Try.f7.params.toList args.toList ds p := hA0
  rw [Try.params7] at hA hval hsz
  obtain ⟨v0, v1, d0, d1, p0, p1, rfl, rfl, rfl, h0, h1⟩ := trodAll_two hA
  obtain ⟨rfl, rfl⟩ := trodVars_none hV
  have k0 := h0
  have k1 := h1
  obtain ⟨b0, hb0⟩ := open_bytes (hval 0 _ v0 rfl rfl) h0 (fun m hm => by
    have := List.all_eq_true.1 hsz m (DataW.weights_mem_each (j := 0) rfl rfl m hm)
    simpa using this)
  obtain ⟨b1, hb1⟩ := open_bytes (hval 1 _ v1 rfl rfl) h1 (fun m hm => by
    have := List.all_eq_true.1 hsz m (DataW.weights_mem_each (j := 1) rfl rfl m hm)
    simpa using this)
  refine (ratTight_any v0 v1 b0 b1 W hb0 hb1).mono fun e W' ⟨he, hb⟩ => ?_
  subst he
  have hlt0 : ∀ x ∈ p0, x.block < W.heap.size := fun x hx => hW0.lt x (by simp [hx])
  have s0 := Below.trod laidOut_yes (by kernel_rfl) (of_decide_eq_true (by kernel_rfl)) k0 hb hlt0
  have hlt1 : ∀ x ∈ p1, x.block < W.heap.size := fun x hx => hW0.lt x (by simp [hx])
  have s1 := Below.trod laidOut_yes (by kernel_rfl) (of_decide_eq_true (by kernel_rfl)) k1 hb hlt1
  exact ⟨_, rfl, _, _, _, [], _, _, hW0, trodAll_mk1 (shut_bool Try.underlying4 true), trodAll_mk2 s0 s1, rfl, hb.frame _, fun h => by cases h⟩

theorem ratTight_holds : Rows.RatTightSaid :=
  OpenClaim.holds_of_wide 7 Try.f7 rfl rfl rfl rfl rfl rfl rfl ⟨rfl, rfl, rfl, rfl, rfl⟩ rfl rfl rfl rfl rfl (by kernel_rfl) Try.func7 (by kernel_rfl)
    (of_decide_eq_true (by kernel_rfl)) (by unfold Func.isWrapper; first | (rw [if_pos (by decide +kernel)]; kernel_rfl) | (rw [if_neg (by decide +kernel)]; exact ⟨rfl, rfl⟩))
    (fun os started H enc _ => ratTight_lifted os started H enc)
end Go.Proofs.Ytnhifinfjfpoiaa
