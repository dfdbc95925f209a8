/- Contracts of slices.Compare, of the comparison of two lists of houses, and of taste.best. Contract of taste.best: the best list of houses of a set of which something is so. Contract of the test of Baits: do baits in some houses reach all houses of a set? Contracts of rat.baited and rat.Baits. Contract of rat.Baits. -/
import Derived.Test.YtnhifinfjfpoiaaGreatK05
import Derived.Laws.EntriesVeiled
import Derived.Shelf.RegionOpen
import Derived.StillTailTactics
namespace Go.Proofs.YtnhifinfjfpoiaaGreat
open Go.RowKit
set_option linter.unusedVariables false

def cmpL : List Int → List Int → Int
  | [], [] => 0
  | [], _ :: _ => -1
  | _ :: _, [] => 1
  | a :: l, b :: m => if a < b then -1 else if a > b then 1 else cmpL l m
def cmpI (a b : Int) : Int := if a < b then -1 else if a > b then 1 else 0
theorem cmp_any (a b : Int) (w : World) : Calls Tryz.prog 100 #[.int .i64 a, .int .i64 b] w fun e w' => e = .returned (.int .i64 (cmpI a b)) ∧ w = w' := by
  have hc : cmpI a b = if a < b then -1 else if a > b then 1 else 0 := rfl
  by_cases h1 : a < b
  · rw [hc, if_pos h1]
    clear hc
    go_enter Tryz.func100, Tryz.ntmps100
    go_wp2
    go_ret
    exact ⟨rfl, rfl⟩
  · by_cases h2 : b < a
    · rw [hc, if_neg h1, if_pos h2]
      clear hc
      go_enter Tryz.func100, Tryz.ntmps100
      go_wp2
      go_ret
      exact ⟨rfl, rfl⟩
    · rw [hc, if_neg h1, if_neg h2]
      clear hc
      go_enter Tryz.func100, Tryz.ntmps100
      go_wp2
      go_ret
      exact ⟨rfl, rfl⟩
theorem cmpL_step {l m : List Int} {k : Nat} (h1 : k < l.length) (h2 : k < m.length) : cmpL (l.drop k) (m.drop k) = if cmpI (nth l k) (nth m k) = 0 then cmpL (l.drop (k + 1)) (m.drop (k + 1)) else cmpI (nth l k) (nth m k) := by
  rw [List.drop_eq_getElem_cons h1, List.drop_eq_getElem_cons h2, nth_eq h1, nth_eq h2]
  unfold cmpI
  rw [cmpL]
  by_cases q1 : l[k] < m[k]
  · simp [q1]
  · by_cases q2 : l[k] > m[k]
    · simp [q1, q2]
    · simp [q1, q2]
theorem cmpL_nil {l : List Int} : cmpL [] l = if l.length = 0 then 0 else -1 := by cases l <;> simp [cmpL]
theorem cmpL_over {l : List Int} (h : 0 < l.length) : cmpL l [] = 1 := by cases l with
  | nil => simp at h
  | cons a l => rfl

set_option maxHeartbeats 1000000 in
theorem compare_any (a b : List Int) (va vb : Value) (w : World) (ha : IsInts w w.heap.size va a) (hb : IsInts w w.heap.size vb b) :
    Calls Tryz.prog 51 #[va, vb] w fun e w' => e = .returned (.int .i64 (cmpL a b)) ∧ w = w' := by
  obtain ⟨aa, ca, rfl, a1, a2, a3⟩ := ha.open
  obtain ⟨ab, cb, rfl, b1, b2, b3⟩ := hb.open
  have HA := Lib.hid a3; have HB := Lib.hid b3
  clear ha hb a3 b3
  go_enter Tryz.func51, Tryz.ntmps51
  go_wp2_with fail
  go_loopw [11] (fun i wr => ∃ k : Nat, k ≤ a.length ∧ k ≤ b.length ∧ i = .int .i64 k ∧ cmpL a b = cmpL (a.drop k) (b.drop k) ∧ w = wr) (fun i _ => a.length - (intOf i).toNat)
  case atStart => exact ⟨0, Nat.zero_le _, Nat.zero_le _, rfl, by simp, rfl⟩
  case round =>
    obtain ⟨k, hk, hk2, rfl, hcmp, rfl⟩ := hrel
    by_cases hlt : k < a.length
    · have hki : (k : Int) < a.length := by omega
      obtain ⟨ba, oa, rfl, _, m1⟩ := HA.out k hlt
      by_cases hlt2 : k < b.length
      · have hki2 : (k : Int) < b.length := by omega
        have hki3 : ¬ (b.length : Int) ≤ k := by omega
        obtain ⟨bb, ob, rfl, _, m2⟩ := HB.out k hlt2
        rw [cmpL_step hlt hlt2] at hcmp
        have hcc := cmp_any (nth a k) (nth b k)
        have HCC := Lib.hid hcc
        clear hcc
        by_cases hz : cmpI (nth a k) (nth b k) = 0
        · rw [hz] at HCC
          rw [if_pos hz] at hcmp
          have HCM := Lib.hid hcmp; clear hcmp hz
          go_wp2_with (go_at_call 100; refine (HCC.out _).mono ?_; rintro e w5 ⟨rfl, rfl⟩)
          go_roundw
          case rel => exact ⟨k + 1, by omega, by omega, by go_num, HCM.out, by simp⟩
          case measure => simp [intOf]; omega
        · rw [if_neg hz] at hcmp
          have HCM := Lib.hid hcmp
          have hz1 : (cmpI (nth a k) (nth b k) == 0) = false := by simpa using hz
          have hz2 : (cmpI (nth a k) (nth b k) != 0) = true := by simp [bne, hz1]
          clear hcmp hz
          go_wp2_with (go_at_call 100; refine (HCC.out _).mono ?_; rintro e w5 ⟨rfl, rfl⟩)
          go_ret
          exact ⟨ret_int HCM.out.symm, rfl⟩
      · have hki3 : (b.length : Int) ≤ k := by omega
        have hv : cmpL a b = 1 := by rw [hcmp, List.drop_eq_nil_of_le (by omega : b.length ≤ k)]; exact cmpL_over (by simp; omega)
        have HV := Lib.hid hv
        clear hcmp hv
        go_wp2_with fail
        go_ret
        exact ⟨ret_int HV.out.symm, rfl⟩
    · obtain rfl : k = a.length := by omega
      rw [List.drop_length, cmpL_nil] at hcmp
      by_cases hlt2 : a.length < b.length
      · have hki3 : (a.length : Int) < b.length := by omega
        rw [if_neg (by simp; omega)] at hcmp
        have HV := Lib.hid hcmp
        clear hcmp
        go_wp2_with fail
        go_ret
        exact ⟨ret_int HV.out.symm, rfl⟩
      · have hki3 : ¬ (a.length : Int) < b.length := by omega
        rw [if_pos (by simp; omega)] at hcmp
        have HV := Lib.hid hcmp
        clear hcmp
        go_wp2_with fail
        go_ret
        exact ⟨ret_int HV.out.symm, rfl⟩

/-- Fewer houses, or as many, and earlier ones. -/
def fewB (a b : List Int) : Bool := decide (a.length < b.length) || (decide (a.length = b.length) && decide (cmpL a b < 0))
theorem few_any (a b : List Int) (va vb : Value) (w : World) (ha : IsInts w w.heap.size va a) (hb : IsInts w w.heap.size vb b) :
    Calls Tryz.prog 50 #[va, vb] w fun e w' => e = .returned (.bool (fewB a b)) ∧ w = w' := by
  have HC := Lib.hid (compare_any a b va vb w ha hb)
  obtain ⟨aa, ca, rfl, a1, a2, a3⟩ := ha.open
  obtain ⟨ab, cb, rfl, b1, b2, b3⟩ := hb.open
  have hf : fewB a b = (decide (a.length < b.length) || (decide (a.length = b.length) && decide (cmpL a b < 0))) := rfl
  clear ha hb a3 b3
  by_cases h1 : a.length < b.length
  · have e1 : (a.length : Int) < b.length := by omega
    rw [show fewB a b = true by rw [hf]; simp [h1]]
    clear hf
    go_enter Tryz.func50, Tryz.ntmps50
    go_wp2_with fail
    all_goals (first | (refine ⟨fun _ h => (by cases h), ?_⟩; go_wp2_with fail) | skip)
    go_ret
    exact ⟨rfl, rfl⟩
  · have e1 : ¬ (a.length : Int) < b.length := by omega
    by_cases h2 : a.length = b.length
    · rw [show fewB a b = decide (cmpL a b < 0) by rw [hf]; simp [h2]]
      rw [← h2] at HC e1 ⊢
      clear hf h1 h2 b1 b2
      go_enter Tryz.func50, Tryz.ntmps50
      go_wp2_with (go_at_call 51; refine HC.out.mono ?_; rintro e w5 ⟨rfl, rfl⟩)
      go_ret
      exact ⟨rfl, rfl⟩
    · have e2 : ¬ (a.length : Int) = b.length := by omega
      rw [show fewB a b = false by rw [hf]; simp [h1, h2]]
      clear hf
      go_enter Tryz.func50, Tryz.ntmps50
      go_wp2_with fail
      go_ret
      exact ⟨rfl, rfl⟩
end Go.Proofs.YtnhifinfjfpoiaaGreat

namespace Go.Proofs.YtnhifinfjfpoiaaGreat
open Go.RowKit
set_option linter.unusedVariables false
attribute [local go_sem] Oper.semAt_some

theorem ints_nil (w : World) (B : Nat) : IsInts w B (.slice none 0 0) [] := ⟨⟨none, 0, rfl, Nat.le_refl _, by simp, .inl rfl⟩, fun _ h => by cases h⟩
def bestStep (better : List Int → List Int → Bool) (all : Nat) (q : Nat → Bool) (st : Bool × List Int) (n : Nat) : Bool × List Int :=
  if subsetN n all && q n then (if !st.1 || better (natsI (members n)) st.2 then (true, natsI (members n)) else st) else st
def bestTo (better : List Int → List Int → Bool) (all : Nat) (q : Nat → Bool) (k : Nat) : Bool × List Int := (List.range k).foldl (bestStep better all q) (false, [])
def bestF (better : List Int → List Int → Bool) (all : Nat) (q : Nat → Bool) : List Int := (bestTo better all q 64).2
theorem bestTo_succ (better : List Int → List Int → Bool) (all : Nat) (q : Nat → Bool) (k : Nat) : bestTo better all q (k + 1) = bestStep better all q (bestTo better all q k) k := by simp [bestTo, List.range_succ]

set_option maxRecDepth 100000 in
set_option maxHeartbeats 2000000 in
theorem best_any (better : List Int → List Int → Bool) (gb : Nat) (hgb : ∀ (args : Array Value) (w : World), (callFunc gb args).run Tryz.prog w = .ok (.enter gb args) w)
    (hbet : ∀ (a b : List Int) (va vb : Value) (w : World), IsInts w w.heap.size va a → IsInts w w.heap.size vb b → Calls Tryz.prog gb #[va, vb] w fun e w' => e = .returned (.bool (better a b)) ∧ w = w')
    (all : Nat) (hall : all < 64) (g : Nat) (cap : Array Value) (q : Nat → Bool) (hg : ∀ (args : Array Value) (w : World), (callFunc g args).run Tryz.prog w = .ok (.enter g args) w) (w : World)
    (hso : ∀ s, s < 64 → ∀ w', Below w.heap.size w w' → Calls Tryz.prog g (#[.int .i64 s] ++ cap) w' fun e w'' => e = .returned (.bool (q s)) ∧ Below w'.heap.size w' w'') :
    Calls Tryz.prog 52 #[.agg #[.func (.func gb) #[] #[]], .int .i64 all, .func (.func g) #[] cap] w fun e w' => ∃ v, e = .returned v ∧ IsInts w' w'.heap.size v (bestF better all q) ∧ Below w.heap.size w w' := by
  have HSO := Lib.hid hso; have HBET := Lib.hid hbet
  clear hso hbet
  have hb0 : Below w.heap.size w (w.alloc (.cells #[.func (.func gb) #[] #[]] 92)) := (Below.refl _ w).alloc (Nat.le_refl _) _
  have x0 : Boxed (w.alloc (.cells #[.func (.func gb) #[] #[]] 92)) w.heap.size 92 (.func (.func gb) #[] #[]) := Boxed.new w _ _
  have HX := Lib.hid (And.intro hb0 x0)
  clear hb0 x0
  go_enter Tryz.func52, Tryz.ntmps52
  go_wp2_with fail
  go_loopw [7, 8, 12] (fun v f i wr => ∃ k : Nat, k ≤ 64 ∧ i = .int .i64 k ∧ f = .bool (bestTo better all q k).1 ∧ Hid (IsInts wr wr.heap.size v (bestTo better all q k).2 ∧ Below (w.heap.size + 1) (w.alloc (.cells #[.func (.func gb) #[] #[]] 92)) wr)) (fun _ _ i _ => 64 - (intOf i).toNat)
  case atStart => exact ⟨0, by omega, rfl, rfl, ints_nil _ _, Below.refl _ _⟩
  case round =>
    obtain ⟨k, hk, rfl, rfl, hrel⟩ := hrel
    by_cases hlt : k < 64
    · have hki : (k : Int) < 64 := by omega
      have hba := bits_andNot hlt hall
      have hsub : subsetN k all = (k &&& (63 - (all &&& 63)) == 0) := rfl
      have hstep := bestTo_succ better all q k
      unfold bestStep at hstep
      have hBr := HX.out.1.trans (hrel.out.2.mono (Nat.le_succ _))
      have hcb : wr.cell? ⟨w.heap.size, 0, none⟩ = some (.func (.func gb) #[] #[]) := (hrel.out.2.cell (p := ⟨w.heap.size, 0, none⟩) (Nat.lt_succ_self _)).trans HX.out.2.cell
      have hsz : w.heap.size + 1 ≤ wr.heap.size := Nat.le_trans (by simp) hrel.out.2.size
      have HBR := Lib.hid (And.intro hBr hsz)
      clear hBr hsz
      cases hz : (k &&& (63 - (all &&& 63)) == 0)
      · have hz0 : (k &&& (63 - (all &&& 63))) ≠ 0 := by intro e; rw [e] at hz; cases hz
        have hz' : ¬ ((k &&& (63 - (all &&& 63)) : Nat) : Int) = 0 := fun e => hz0 (Int.natCast_eq_zero.1 e)
        rw [hsub, hz] at hstep
        have HS := Lib.hid hstep
        clear hz hz0 hstep hsub
        go_wp2_with fail
        try (refine ⟨fun _ h => (by cases h), ?_⟩; go_wp2_with fail)
        go_roundw
        case rel =>
          refine ⟨k + 1, by omega, by go_num, ?_, ?_⟩
          · rw [HS.out]; rfl
          · rw [HS.out]; exact hrel.out
        case measure => simp [intOf]; omega
      · have hz' : (k &&& (63 - (all &&& 63))) = 0 := by simpa using hz
        rw [hz'] at hba
        have HSK := Lib.hid (HSO.out k hlt wr HBR.out.1)
        cases hq : q k
        · rw [hsub, hz, hq] at hstep
          rw [hq] at HSK
          have HS := Lib.hid hstep
          clear hz hz' hstep hsub
          go_wp2_with fail
          refine HSK.out.mono ?_
          rintro e w1 ⟨rfl, hb1⟩
          have H1 := Lib.hid hb1; clear hb1
          go_wp2_with fail
          go_roundw
          case rel =>
            refine ⟨k + 1, by omega, by go_num, ?_, ?_⟩
            · rw [HS.out]; rfl
            · rw [HS.out]
              exact ⟨(hrel.out.1.below H1.out (Nat.le_refl _)).mono H1.out.size, hrel.out.2.trans (H1.out.mono HBR.out.2)⟩
          case measure => simp [intOf]; omega
        · rw [hsub, hz, hq] at hstep
          rw [hq] at HSK
          have HS := Lib.hid hstep
          clear hz hz' hstep hsub
          cases hfound : (bestTo better all q k).1
          · have HF := Lib.hid hfound
            clear hfound
            go_wp2_with fail
            refine HSK.out.mono ?_
            rintro e w1 ⟨rfl, hb1⟩
            have H1 := Lib.hid hb1; clear hb1
            go_wp2_with (go_at_call 44; refine (list_any k hlt _).mono ?_; rintro e w3 ⟨v, rfl, hv, hb3⟩; have H3 := Lib.hid (And.intro hv hb3); clear hv hb3)
            go_roundw
            case rel =>
              have hb13 : Below wr.heap.size wr w3 := H1.out.trans (H3.out.2.mono H1.out.size)
              refine ⟨k + 1, by omega, by go_num, ?_, ?_⟩
              · rw [HS.out, HF.out]; rfl
              · rw [HS.out, HF.out]
                exact ⟨H3.out.1, hrel.out.2.trans (hb13.mono HBR.out.2)⟩
            case measure => simp [intOf]; omega
          · have HF := Lib.hid hfound
            clear hfound
            go_wp2_with fail
            refine HSK.out.mono ?_
            rintro e w1 ⟨rfl, hb1⟩
            have H1 := Lib.hid hb1
            have hcb1 := (hb1.cell (p := ⟨w.heap.size, 0, none⟩) (Nat.lt_of_lt_of_le (Nat.lt_succ_self _) HBR.out.2)).trans hcb
            clear hb1
            go_wp2_with (go_at_call 44; refine (list_any k hlt _).mono ?_; rintro e w3 ⟨v, rfl, hv, hb3⟩; have hcb3 := (hb3.cell (p := ⟨w.heap.size, 0, none⟩) (Nat.lt_of_lt_of_le (Nat.lt_of_lt_of_le (Nat.lt_succ_self _) HBR.out.2) H1.out.size)).trans hcb1; have H3 := Lib.hid (And.intro hv (And.intro hb3 hcb3)); clear hv hb3)
            have hb13 : Below wr.heap.size wr w3 := H1.out.trans (H3.out.2.1.mono H1.out.size)
            have HCB := HBET.out (natsI (members k)) (bestTo better all q k).2 v u7 w3 H3.out.1 ((hrel.out.1.below hb13 (Nat.le_refl _)).mono hb13.size)
            clear hb13
            cases hbt : better (natsI (members k)) (bestTo better all q k).2
            · rw [hbt] at HCB
              have HBT := Lib.hid hbt
              clear hbt
              refine HCB.mono ?_
              rintro e w4 ⟨rfl, rfl⟩
              go_wp2_with fail
              go_roundw
              case rel =>
                have hb13 : Below wr.heap.size wr w3 := H1.out.trans (H3.out.2.1.mono H1.out.size)
                refine ⟨k + 1, by omega, by go_num, ?_, ?_⟩
                · rw [HS.out, HF.out, HBT.out]; exact congrArg Value.bool HF.out.symm
                · rw [HS.out, HF.out, HBT.out]
                  exact ⟨(hrel.out.1.below hb13 (Nat.le_refl _)).mono hb13.size, hrel.out.2.trans (hb13.mono HBR.out.2)⟩
              case measure => simp [intOf]; omega
            · rw [hbt] at HCB
              have HBT := Lib.hid hbt
              clear hbt
              refine HCB.mono ?_
              rintro e w4 ⟨rfl, rfl⟩
              go_wp2_with fail
              go_roundw
              case rel =>
                have hb13 : Below wr.heap.size wr w3 := H1.out.trans (H3.out.2.1.mono H1.out.size)
                refine ⟨k + 1, by omega, by go_num, ?_, ?_⟩
                · rw [HS.out, HF.out, HBT.out]; rfl
                · rw [HS.out, HF.out, HBT.out]
                  exact ⟨H3.out.1, hrel.out.2.trans (hb13.mono HBR.out.2)⟩
              case measure => simp [intOf]; omega
    · obtain rfl : k = 64 := by omega
      go_wp2_with fail
      go_ret
      exact ⟨_, rfl, hrel.out.1, HX.out.1.trans (hrel.out.2.mono (Nat.le_succ _))⟩
end Go.Proofs.YtnhifinfjfpoiaaGreat

namespace Go.Proofs.YtnhifinfjfpoiaaGreat
open Go.RowKit
set_option linter.unusedVariables false
attribute [local go_sem] Oper.semAt_some

def coverAcc (c : Col) (R : Nat) (l : List Nat) : Nat := l.foldl (fun acc h => orN acc (reachN c h R)) 0
def coverB (c : Col) (R all s : Nat) : Bool := subsetN all (coverAcc c R (members s))
theorem coverAcc_snoc (c : Col) (R : Nat) (l : List Nat) (o : Nat) : coverAcc c R (l ++ [o]) = orN (coverAcc c R l) (reachN c o R) := by simp [coverAcc, List.foldl_append]
theorem coverAcc_lt (c : Col) (R : Nat) (l : List Nat) (hl : ∀ h ∈ l, h < 6) : coverAcc c R l < 64 := by
  have key : ∀ (l : List Nat) (a : Nat), (∀ h ∈ l, h < 6) → a < 64 → l.foldl (fun acc h => orN acc (reachN c h R)) a < 64 := by
    intro l
    induction l with
    | nil => intro a _ h; exact h
    | cons o l ih => intro a hl h; exact ih _ (fun x hx => hl x (by simp [hx])) (orN_lt h (reachN_lt c o (hl o (by simp)) R))
  exact key l 0 hl (by decide)

set_option maxRecDepth 100000 in
set_option maxHeartbeats 2000000 in
theorem cover_any (c : Col) (p R all s bd br ba : Nat) (w : World) (hd : Desk w p c) (hR : R ≤ 3) (hs : s < 64) (hall : all < 64) (x1 : Boxed w bd 76 (.pointer (some ⟨p, 0, none⟩))) (x2 : Boxed w br 3 (.int .i64 R)) (x3 : Boxed w ba 81 (.int .i64 all)) :
    Calls Tryz.prog 53 #[.int .i64 s, .pointer (some ⟨bd, 0, none⟩), .pointer (some ⟨br, 0, none⟩), .pointer (some ⟨ba, 0, none⟩)] w fun e w' => e = .returned (.bool (coverB c R all s)) ∧ Below w.heap.size w w' := by
  have l1 := (Array.getElem?_eq_some_iff.1 x1).1
  have l2 := (Array.getElem?_eq_some_iff.1 x2).1
  have l3 := (Array.getElem?_eq_some_iff.1 x3).1
  have HD := Lib.hid hd; have HX := Lib.hid (And.intro x1 (And.intro x2 x3))
  clear hd x1 x2 x3
  refine (callsIn_wide (n := 9)).1 ?_
  refine callsIn_of_wp_marks Tryz.func53 rfl trivial ?_ rfl
  simp only [Tryz.ntmps53, List.size_toArray, List.length_cons, List.length_nil, Nat.reduceAdd, Nat.reduceSub, Array.replicate_succ, Array.replicate_zero, List.push_toArray, List.append_toArray, List.nil_append, List.cons_append]
  gi_wp2_with (refine ⟨trivial, ?_⟩; gi_at_call 54; refine (houses_in Fence.wide _ _ trivial rfl _).mono ?_; rintro e w' ⟨rfl, rfl⟩)
  have y2 : Boxed ((w.alloc (.cells #[.int .i64 0] 81)).alloc (.cells #[.int .i64 s] 81)) w.heap.size 81 (.int .i64 0) := (Boxed.new w _ _).alloc _
  have y3 : Boxed ((w.alloc (.cells #[.int .i64 0] 81)).alloc (.cells #[.int .i64 s] 81)) (w.heap.size + 1) 81 (.int .i64 s) := by
    have := Boxed.new (w.alloc (.cells #[.int .i64 0] 81)) 81 (.int .i64 s)
    rw [World.size_alloc] at this
    exact this
  have hb4 : Below w.heap.size w ((w.alloc (.cells #[.int .i64 0] 81)).alloc (.cells #[.int .i64 s] 81)) := ((Below.refl _ w).alloc (Nat.le_refl _) _).alloc (by simp) _
  have hs4 : ((w.alloc (.cells #[.int .i64 0] 81)).alloc (.cells #[.int .i64 s] 81)).heap.size = w.heap.size + 2 := by simp
  obtain ⟨W4, hW4⟩ : ∃ W4, ((w.alloc (.cells #[.int .i64 0] 81)).alloc (.cells #[.int .i64 s] 81)) = W4 := ⟨_, rfl⟩
  rw [hW4] at y2 y3 hb4 hs4 ⊢
  clear hW4
  have HY := Lib.hid (And.intro y2 (And.intro y3 hb4))
  have hle4 : w.heap.size + 2 ≤ W4.heap.size := by omega
  clear y2 y3 hb4 hs4
  refine wpIn_rangeFunc_ownG rfl (by decide) (gf := 101) (lb := #[.pointer (some ⟨w.heap.size + 1, 0, none⟩)]) rfl trivial Tryz.call101
    (houses_stops Fence.wide 8 s hs trivial trivial rfl (by decide) (w.heap.size + 1) (fun A B => B.cell? ⟨w.heap.size + 1, 0, none⟩ = A.cell? ⟨w.heap.size + 1, 0, none⟩) (fun A B h => h) W4 (by omega) HY.out.2.1.cell)
    (fun h k => k.trans h) (fun W1 l o o' hl ho hc _ => ?kb) (Below.refl _ _) (fun _ => rfl)
    (fun pre W1 => Boxed W1 w.heap.size 81 (.int .i64 (coverAcc c R (vals pre) : Nat)) ∧ Kept w.heap.size w.heap.size w.heap.size W4 W1)
    (fun _ _ _ => False) ?hI (fun _ _ _ _ _ hs _ _ => hs) ⟨HY.out.1, Kept.refl _ _ _ _⟩
    (fun x => { tmps := #[.int .i64 s, .pointer (some ⟨bd, 0, none⟩), .pointer (some ⟨br, 0, none⟩), .pointer (some ⟨ba, 0, none⟩), undef, .bool false, .pointer (some ⟨w.heap.size, 0, none⟩), .int .i64 x.1, .int .i64 s, .func (.func 101) #[] #[.pointer (some ⟨w.heap.size + 1, 0, none⟩)], .int .i64 x.1, undef, undef, undef, undef, undef, undef, undef, undef, undef, undef], defers := [] }) ?assign ?body ?done ?stop
  case kb =>
    show (W1.putObj l o').cell? _ = _
    have hne : w.heap.size + 1 ≠ l := by omega
    exact World.cell?_of_block (w := W1) (World.putObj_heap_other hne)
  case hI =>
    refine ownFrom_of_below (fun s W1 h => h.2.size) ?_
    rintro s W1 W2 hb ⟨g1, g2⟩
    exact ⟨(hb.block _ (by omega)).trans g1, g2.onto hb (Nat.le_refl _)⟩
  case assign =>
    intro l x W1 K hK
    gi_wp2
    exact hK
  case body =>
    rintro l pre x W1 ⟨g1, g2⟩ hlt
    have hx6 := x.2.1
    have hBW : Below w.heap.size w W1 := HY.out.2.2.trans (g2.below (by omega) (Nat.le_refl _) (Nat.le_refl _) (Nat.le_refl _))
    have hsz := g2.size
    have e1 := g1.cell
    have e3 := Boxed.cell (show Boxed W1 bd 76 (.pointer (some ⟨p, 0, none⟩)) from (hBW.block _ l1).trans HX.out.1)
    have e4 := Boxed.cell (show Boxed W1 br 3 (.int .i64 R) from (hBW.block _ l2).trans HX.out.2.1)
    have hcl := coverAcc_lt c R (vals pre) (vals_lt pre)
    have hrl := reachN_lt c x.1 hx6 R
    have hor := bits_orN hcl hrl
    have hmix : Tryz.prog.follows .mixedOrders = true := by kernel_rfl
    have HDW := Lib.hid (HD.out.below (hBW.drew))
    have HG := Lib.hid (And.intro g1 (And.intro g2 hBW))
    have hkey : ∀ w2 : World, Below W1.heap.size W1 w2 → w2.cell? ⟨w.heap.size, 0, none⟩ = some (.int .i64 (coverAcc c R (vals pre) : Nat)) ∧ w2.frozen? ⟨w.heap.size, 0, none⟩ = false := fun w2 h2 => by
      have := (h2.block w.heap.size (by omega)).trans g1
      exact ⟨Boxed.cell this, Boxed.frozen this⟩
    have HK := Lib.hid hkey
    clear g1 g2 hBW hkey
    refine wpIn_block ?_
    gi_region_with_o (refine ⟨trivial, ?_⟩; gi_at_call 43; refine (CallsIn.inRound l (callsIn_wide.2 (reaches_any c p x.1 R _ HDW.out hx6 hR))).mono ?_; rintro e w2 ⟨rfl, hb2⟩; have H2 := Lib.hid hb2; obtain ⟨k1, k2⟩ := HK.out w2 (((Below.refl _ W1).drew).trans hb2); clear hb2)
    all_goals
      obtain ⟨g1, g2, hBW⟩ := HG.out
      have hb2 : Below W1.heap.size W1 w2 := ((Below.refl _ W1).drew).trans H2.out
      have k2 : Kept w.heap.size w.heap.size w.heap.size W1 (w2.setCell ⟨w.heap.size, 0, none⟩ (.int .i64 (orN (coverAcc c R (vals pre)) (reachN c x.1 R)))) := (Kept.of hb2).set ⟨w.heap.size, 0, none⟩ _ (.inl rfl)
      refine ⟨k2.keeps (by omega) (by omega) (by omega), k2.cell (p := ⟨w.heap.size + 1, 0, none⟩) (by simp; omega) (by simp) (by simp) (by simp), ?_, g2.trans k2⟩
      rw [vals_snoc, coverAcc_snoc]
      exact heap_setCell_same w2 _ _ _ _ _ ((hb2.block _ (by omega)).trans g1)
  case done =>
    rintro D ys W1 hD hys ⟨g1, g2⟩ hK
    have hBW : Below w.heap.size w W1 := HY.out.2.2.trans (g2.below (by omega) (Nat.le_refl _) (Nat.le_refl _) (Nat.le_refl _))
    have hsz := g2.size
    have e1 := g1.cell
    have e5 := Boxed.cell (show Boxed W1 ba 81 (.int .i64 all) from (hBW.block _ l3).trans HX.out.2.2)
    rw [hys] at e1
    have hcl := coverAcc_lt c R (members s) (members_lt s)
    have hba := bits_andNot hall hcl
    have hcov : coverB c R all s = (all &&& (63 - (coverAcc c R (members s) &&& 63)) == 0) := rfl
    have HCV := Lib.hid hcov
    have HZ := Lib.hid (And.intro hBW hK)
    clear g1 g2 hBW hK hys hcov
    gi_wp2_with fail
    refine ret_marks (B := w.heap.size) (m := D + 1) ((MarksLt.nil w.heap.size D _).cons (Nat.le_refl _) (by omega) (Nat.lt_succ_self _) HZ.out.2) (fun W' hW' => ?_)
    refine ⟨_, results_tmp rfl _ _ _, ?_, HZ.out.1.trans hW'⟩
    refine ret_bool ?_
    rw [HCV.out]
    rw [Bool.eq_iff_iff]; simp only [beq_iff_eq]; exact Int.natCast_eq_zero
  case stop =>
    rintro D e pre W1 _ _ h _
    exact h.elim
end Go.Proofs.YtnhifinfjfpoiaaGreat

namespace Go.Proofs.YtnhifinfjfpoiaaGreat
open Go.RowKit
set_option linter.unusedVariables false
attribute [local go_sem] Oper.semAt_some

/-- The places of a list that hold more than 0. -/
def posTo (l : List Int) : Nat → Nat
  | 0 => 0
  | k + 1 => if 0 < nth l k then orN (posTo l k) (pw k) else posTo l k
def posC (c : Col) : Nat := posTo (afterC c) c.rooms.length
theorem posTo_lt (l : List Int) : ∀ k, k ≤ 6 → posTo l k < 64
  | 0, _ => Nat.zero_lt_succ 63
  | k + 1, h => by
    unfold posTo
    split
    · exact orN_lt (posTo_lt l k (by omega)) (pw_lt (by omega))
    · exact posTo_lt l k (by omega)
def baitErr (c : Col) (R : Int) : Int := if checkC c = 0 then (if inB R 0 3 = true then fitErr c else 4) else checkC c
theorem bait_in {c : Col} {R : Int} (h : baitErr c R = 0) : checkC c = 0 ∧ inB R 0 3 = true ∧ fitErr c = 0 := by
  unfold baitErr at h
  by_cases q : checkC c = 0
  · rw [if_pos q] at h
    cases q2 : inB R 0 3
    · rw [q2] at h; simp at h
    · rw [q2] at h; simp at h; exact ⟨q, rfl, h⟩
  · rw [if_neg q] at h; exact absurd h q

set_option maxRecDepth 100000 in
set_option maxHeartbeats 2000000 in
theorem baited_ok (c : Col) (r t u n : Value) (R : Int) (w : World) (hc : ColAt w w.heap.size r t u n c) (hk : baitErr c R = 0) :
    Calls Tryz.prog 49 #[.agg #[r, t, u, n], .int .i64 R] w fun e w' => ∃ p, e = .returned (.tuple #[.pointer (some ⟨p, 0, none⟩), .int .i64 (posC c : Nat), .int .i64 0]) ∧ Desk w' p c ∧ Below w.heap.size w w' := by
  obtain ⟨k0, k1, k2⟩ := bait_in hk
  have hBW := (Below.refl w.heap.size w).alloc (Nat.le_refl _) (.cells #[r, t, u, n] 26)
  have hcA := (hc.below hBW (Nat.le_refl _)).mono (B' := (w.alloc (.cells #[r, t, u, n] 26)).heap.size) (by simp)
  have HCK := Lib.hid (opened_ok c r t u n _ hcA k0)
  have HC := Lib.hid hcA
  have o2 := (okCol_of k0).houses.2
  have HF := Lib.hid k2; have HB := Lib.hid hBW
  obtain ⟨hr, htr, hu, hn⟩ := hc
  obtain ⟨ar, cr, rfl, _⟩ := hr.open
  obtain ⟨at_, ct, rfl, _⟩ := htr.open
  obtain ⟨au, cu, rfl, _⟩ := hu.open
  obtain ⟨an, cn, rfl, _⟩ := hn.open
  clear hr htr hu hn hBW hcA hk k0 k2
  go_enter Tryz.func49, Tryz.ntmps49
  go_wp2_with fail
  refine HCK.out.mono ?_
  rintro e w1 ⟨p, rfl, hb1, hd⟩
  obtain ⟨c0, c1, c2, c3⟩ := box4 (hb1.mono (by simp))
  have hc1 := (HC.out.below hb1 (Nat.le_refl _)).mono hb1.size
  have HAF := Lib.hid (After_ok c _ _ _ _ w1 hc1 HF.out)
  have HD := Lib.hid (And.intro hb1 hd)
  clear hb1 hd hc1
  go_wp2_with (first | (go_at_call 42; refine (in_any _ _ _ _).mono ?_; rw [k1]; rintro e w' ⟨rfl, rfl⟩) | (go_at_call 30; refine HAF.out.mono ?_; rintro e w2 ⟨v, rfl, hv, hb2⟩; obtain ⟨a0, cap0, rfl, l1, l2, l3⟩ := hv.open; have H2 := Lib.hid hb2; have HL := Lib.hid l3; clear hv hb2 l3))
  have HN : Hid ((afterC c).length = c.rooms.length) := afterTo_len c _
  clear c0 c1 c2 c3
  go_loopw [10, 33] (fun a i wr => ∃ k : Nat, k ≤ (afterC c).length ∧ i = .int .i64 k ∧ a = .int .i64 (posTo (afterC c) k : Nat) ∧ w2 = wr) (fun _ i _ => (afterC c).length - (intOf i).toNat)
  case atStart => exact ⟨0, Nat.zero_le _, rfl, rfl, rfl⟩
  case round =>
    obtain ⟨k, hk, rfl, rfl, rfl⟩ := hrel
    by_cases hlt : k < (afterC c).length
    · have hki : (k : Int) < (afterC c).length := by omega
      have hk6 : k < 6 := by have := HN.out; omega
      obtain ⟨b, off, rfl, hbl, hcell⟩ := HL.out k hlt
      have hwp := wrap_pw (k := k) (by omega)
      have hor := bits_orN (posTo_lt (afterC c) k (by omega)) (pw_lt (h := k) (by omega))
      have hs : posTo (afterC c) (k + 1) = if 0 < nth (afterC c) k then orN (posTo (afterC c) k) (pw k) else posTo (afterC c) k := rfl
      have HS := Lib.hid hs
      clear hs
      by_cases hp : 0 < nth (afterC c) k
      · have HP := Lib.hid hp
        go_wp2_with fail
        go_roundw
        case rel => exact ⟨k + 1, by omega, by go_num, by rw [HS.out, if_pos HP.out], by simp⟩
        case measure => simp [intOf]; omega
      · have hp2 : nth (afterC c) k ≤ 0 := by omega
        have HP := Lib.hid hp
        go_wp2_with fail
        go_roundw
        case rel => exact ⟨k + 1, by omega, by go_num, by rw [HS.out, if_neg HP.out], by simp⟩
        case measure => simp [intOf]; omega
    · obtain rfl : k = (afterC c).length := by omega
      go_wp2_with fail
      go_ret3
      have h1 := HB.out.trans (HD.out.1.mono (by simp))
      exact ⟨p, by rw [show posC c = posTo (afterC c) (afterC c).length from by unfold posC; rw [HN.out]]; rfl, HD.out.2.below H2.out, h1.trans (H2.out.mono h1.size)⟩

set_option maxRecDepth 100000 in
theorem baited_bad (c : Col) (r t u n : Value) (R : Int) (w : World) (hc : ColAt w w.heap.size r t u n c) (hk : ¬ baitErr c R = 0) :
    Calls Tryz.prog 49 #[.agg #[r, t, u, n], .int .i64 R] w fun e w' => ∃ q, e = .returned (.tuple #[.pointer q, .int .i64 0, .int .i64 (baitErr c R)]) ∧ Below w.heap.size w w' := by
  have hBW := (Below.refl w.heap.size w).alloc (Nat.le_refl _) (.cells #[r, t, u, n] 26)
  have hcA := (hc.below hBW (Nat.le_refl _)).mono (B' := (w.alloc (.cells #[r, t, u, n] 26)).heap.size) (by simp)
  have HC := Lib.hid hcA
  have HB := Lib.hid hBW
  obtain ⟨hr, htr, hu, hn⟩ := hc
  obtain ⟨ar, cr, rfl, _⟩ := hr.open
  obtain ⟨at_, ct, rfl, _⟩ := htr.open
  obtain ⟨au, cu, rfl, _⟩ := hu.open
  obtain ⟨an, cn, rfl, _⟩ := hn.open
  clear hr htr hu hn hBW hcA
  by_cases q : checkC c = 0
  · have HCK := Lib.hid (opened_ok c _ _ _ _ _ HC.out q)
    cases k1 : inB R 0 3
    · have e : baitErr c R = 4 := by unfold baitErr; rw [if_pos q, k1]; rfl
      rw [e]
      clear hk q e
      go_enter Tryz.func49, Tryz.ntmps49
      go_wp2_with fail
      refine HCK.out.mono ?_
      rintro e w1 ⟨p, rfl, hb1, hd⟩
      have HD := Lib.hid hb1
      clear hb1 hd
      go_wp2_with (go_at_call 42; refine (in_any _ _ _ _).mono ?_; rw [k1]; rintro e w' ⟨rfl, rfl⟩)
      go_ret3
      exact ⟨none, rfl, HB.out.trans (HD.out.mono (by simp))⟩
    · have e : baitErr c R = fitErr c := by unfold baitErr; rw [if_pos q, k1]; rfl
      rw [e] at hk ⊢
      clear e q
      go_enter Tryz.func49, Tryz.ntmps49
      go_wp2_with fail
      refine HCK.out.mono ?_
      rintro e w1 ⟨p, rfl, hb1, hd⟩
      obtain ⟨c0, c1, c2, c3⟩ := box4 (hb1.mono (by simp))
      have hc1 := (HC.out.below hb1 (Nat.le_refl _)).mono hb1.size
      have HAF := Lib.hid (After_bad c _ _ _ _ w1 hc1 hk)
      have HD := Lib.hid hb1
      clear hb1 hd hc1 hk
      go_wp2_with (first | (go_at_call 42; refine (in_any _ _ _ _).mono ?_; rw [k1]; rintro e w' ⟨rfl, rfl⟩) | (go_at_call 30; refine HAF.out.mono ?_; rintro e w2 ⟨rfl, hb2⟩; have H2 := Lib.hid hb2; clear hb2))
      refine wp_loop_rounds 1 ?_
      rw [rounds_succ]
      go_wp2_with fail
      go_ret3
      have h1 := HB.out.trans (HD.out.mono (by simp))
      exact ⟨_, rfl, h1.trans (H2.out.mono h1.size)⟩
  · have HCK := Lib.hid (opened_bad c _ _ _ _ _ HC.out q)
    have e : baitErr c R = checkC c := by unfold baitErr; rw [if_neg q]
    rw [e]
    have hk1 : (checkC c == 0) = false := by simpa using q
    have hk2 : (checkC c != 0) = true := by simp [bne, hk1]
    clear hk q e
    go_enter Tryz.func49, Tryz.ntmps49
    go_wp2_with fail
    refine HCK.out.mono ?_
    rintro e w1 ⟨rfl, hb1⟩
    go_wp2_with fail
    go_ret3
    exact ⟨none, rfl, HB.out.trans (hb1.mono (by simp))⟩
end Go.Proofs.YtnhifinfjfpoiaaGreat

namespace Go.Proofs.YtnhifinfjfpoiaaGreat
open Go.RowKit
set_option linter.unusedVariables false
attribute [local go_sem] Oper.semAt_some

/-- The set of all houses. -/
def allN (n : Nat) : Nat := 2 ^ n - 1
theorem wrap_all {n : Nat} (h : n ≤ 6) : IntKind.i64.wrap ((2 : Int) ^ n) = (allN n : Int) + 1 := by
  match n, h with
  | 0, _ => rfl
  | 1, _ => rfl
  | 2, _ => rfl
  | 3, _ => rfl
  | 4, _ => rfl
  | 5, _ => rfl
  | 6, _ => rfl
theorem allN_lt {n : Nat} (h : n ≤ 6) : allN n < 64 := by
  match n, h with
  | 0, _ => decide
  | 1, _ => decide
  | 2, _ => decide
  | 3, _ => decide
  | 4, _ => decide
  | 5, _ => decide
  | 6, _ => decide
def baitsC (c : Col) (R : Nat) : List Int := bestF fewB (allN c.rooms.length) (coverB c R (posC c))

set_option maxRecDepth 100000 in
set_option maxHeartbeats 2000000 in
theorem Baits_ok (c : Col) (r t u n : Value) (R : Int) (w : World) (hc : ColAt w w.heap.size r t u n c) (hk : baitErr c R = 0) :
    Calls Tryz.prog 12 #[.agg #[r, t, u, n], .int .i64 R] w fun e w' => ∃ v, e = .returned (.tuple #[v, .int .i64 0]) ∧ IsInts w' w'.heap.size v (baitsC c R.toNat) ∧ Below w.heap.size w w' := by
  obtain ⟨k0, k1, k2⟩ := bait_in hk
  have a := inB_true k1
  obtain ⟨M, rfl⟩ : ∃ M : Nat, R = M := ⟨R.toNat, by omega⟩
  have hM : M ≤ 3 := by omega
  have o2 := (okCol_of k0).houses.2
  have hBW : Below w.heap.size w ((w.alloc (.cells #[r, t, u, n] 26)).alloc (.cells #[.int .i64 M] 3)) := ((Below.refl w.heap.size w).alloc (Nat.le_refl _) _).alloc (by simp) _
  have hcA := (hc.below hBW (Nat.le_refl _)).mono (B' := ((w.alloc (.cells #[r, t, u, n] 26)).alloc (.cells #[.int .i64 M] 3)).heap.size) (by simp; omega)
  have HBT := Lib.hid (baited_ok c r t u n M _ hcA hk)
  have hx1 : Boxed ((w.alloc (.cells #[r, t, u, n] 26)).alloc (.cells #[.int .i64 M] 3)) (w.heap.size + 1) 3 (.int .i64 M) := by
    have := Boxed.new (w.alloc (.cells #[r, t, u, n] 26)) 3 (.int .i64 M)
    rw [World.size_alloc] at this
    exact this
  have hx0 : ((w.alloc (.cells #[r, t, u, n] 26)).alloc (.cells #[.int .i64 M] 3)).cell? ⟨w.heap.size, 0, none⟩ = some r := by simp [go_sem]
  obtain ⟨hr, htr, hu, hn⟩ := hc
  obtain ⟨ar, cr, rfl, _⟩ := hr.open
  obtain ⟨at_, ct, rfl, _⟩ := htr.open
  obtain ⟨au, cu, rfl, _⟩ := hu.open
  obtain ⟨an, cn, rfl, _⟩ := hn.open
  have HB := Lib.hid hBW; have HX := Lib.hid (And.intro hx0 hx1)
  clear hr htr hu hn hBW hcA hk k0 k1 k2 hx0 hx1 a
  go_enter Tryz.func12, Tryz.ntmps12
  go_wp2_with fail
  refine HBT.out.mono ?_
  rintro e w3 ⟨p, rfl, hd, hb3⟩
  have c0 := (hb3.cell (p := ⟨w.heap.size, 0, none⟩) (by simp; omega)).trans HX.out.1
  have x1 := (hb3.block _ (by simp)).trans HX.out.2
  have HD := Lib.hid (And.intro hb3 (And.intro hd x1))
  have hwp := wrap_all o2
  have hal := allN_lt o2
  clear hb3 hd x1
  go_wp2_with fail
  have hw6 : ∀ W6, (((w3.alloc (.cells #[.pointer (some ⟨p, 0, none⟩)] 76)).alloc (.cells #[.int .i64 (posC c : Nat)] 81)).alloc (.cells #[.func (.func 50) #[] #[]] 92)) = W6 →
      W6.cell? ⟨w3.heap.size + 1 + 1, 0, none⟩ = some (.func (.func 50) #[] #[]) ∧ Boxed W6 w3.heap.size 76 (.pointer (some ⟨p, 0, none⟩)) ∧ Boxed W6 (w3.heap.size + 1) 81 (.int .i64 (posC c : Nat)) ∧ Below w3.heap.size w3 W6 := by
    rintro _ rfl
    refine ⟨by simp [go_sem], ((Boxed.new w3 _ _).alloc _).alloc _, ?_, (((Below.refl _ w3).alloc (Nat.le_refl _) _).alloc (by simp) _).alloc (by simp; omega) _⟩
    have := Boxed.new (w3.alloc (.cells #[.pointer (some ⟨p, 0, none⟩)] 76)) 81 (.int .i64 (posC c : Nat))
    rw [World.size_alloc] at this
    exact this.alloc _
  obtain ⟨W6, hW6⟩ : ∃ W6, (((w3.alloc (.cells #[.pointer (some ⟨p, 0, none⟩)] 76)).alloc (.cells #[.int .i64 (posC c : Nat)] 81)).alloc (.cells #[.func (.func 50) #[] #[]] 92)) = W6 := ⟨_, rfl⟩
  obtain ⟨d1, d2, d3, d4⟩ := hw6 _ hW6
  have hb3 := HD.out.1
  have hsz3 := hb3.size
  have d0 := (d4.cell (p := ⟨w.heap.size, 0, none⟩) (Nat.lt_of_lt_of_le (by simp; omega) hsz3)).trans c0
  have d5 := (d4.block (w.heap.size + 1) (Nat.lt_of_lt_of_le (by simp) hsz3)).trans HD.out.2.2
  have hd6 := HD.out.2.1.below d4
  have hs6 := d4.size
  rw [hW6]
  have HW := Lib.hid (And.intro d2 (And.intro d3 (And.intro d4 (And.intro d5 hd6))))
  clear hW6 hw6 d2 d3 d4 d5 hd6 hb3 hsz3 c0 hs6
  go_still_tail 7, (by kernel_rfl)
  change wpList _ _ _ _ _ W6.drew
  have hwd : Below W6.heap.size W6 W6.drew := (Below.refl _ W6).drew
  have HC := Lib.hid (best_any fewB 50 Tryz.call50 few_any (allN c.rooms.length) hal 53 #[.pointer (some ⟨w3.heap.size, 0, none⟩), .pointer (some ⟨w.heap.size + 1, 0, none⟩), .pointer (some ⟨w3.heap.size + 1, 0, none⟩)] (coverB c M (posC c)) Tryz.call53 W6.drew (fun s hs w' hb' => by
    have hb := hwd.trans (hb'.mono (Nat.le_refl _))
    obtain ⟨e2, e3, e4, e5, e6⟩ := HW.out
    exact cover_any c p M (posC c) s w3.heap.size (w.heap.size + 1) (w3.heap.size + 1) w' (e6.below hb) hM hs (posTo_lt _ _ o2) ((hb.block _ (Array.getElem?_eq_some_iff.1 e2).1).trans e2) ((hb.block _ (Array.getElem?_eq_some_iff.1 e5).1).trans e5) ((hb.block _ (Array.getElem?_eq_some_iff.1 e3).1).trans e3)))
  clear hwd
  go_wp2_with (go_at_call 52; refine HC.out.mono ?_; rintro e w7 ⟨v, rfl, hv, hb7⟩; have H7 := Lib.hid (And.intro hv hb7); clear hv hb7)
  go_ret2
  have h1 := HB.out.trans (HD.out.1.mono (by simp; omega))
  have h2 := h1.trans (HW.out.2.2.1.mono h1.size)
  exact ⟨v, rfl, H7.out.1, h2.trans (((Below.refl w.heap.size W6).drew).trans (H7.out.2.mono h2.size))⟩

set_option maxRecDepth 100000 in
theorem Baits_bad (c : Col) (r t u n : Value) (R : Int) (w : World) (hc : ColAt w w.heap.size r t u n c) (hk : ¬ baitErr c R = 0) :
    Calls Tryz.prog 12 #[.agg #[r, t, u, n], .int .i64 R] w fun e w' => e = .returned (.tuple #[.slice none 0 0, .int .i64 (baitErr c R)]) ∧ Below w.heap.size w w' := by
  have hBW : Below w.heap.size w ((w.alloc (.cells #[r, t, u, n] 26)).alloc (.cells #[.int .i64 R] 3)) := ((Below.refl w.heap.size w).alloc (Nat.le_refl _) _).alloc (by simp) _
  have hcA := (hc.below hBW (Nat.le_refl _)).mono (B' := ((w.alloc (.cells #[r, t, u, n] 26)).alloc (.cells #[.int .i64 R] 3)).heap.size) (by simp; omega)
  have HBT := Lib.hid (baited_bad c r t u n R _ hcA hk)
  obtain ⟨hr, htr, hu, hn⟩ := hc
  obtain ⟨ar, cr, rfl, _⟩ := hr.open
  obtain ⟨at_, ct, rfl, _⟩ := htr.open
  obtain ⟨au, cu, rfl, _⟩ := hu.open
  obtain ⟨an, cn, rfl, _⟩ := hn.open
  have HB := Lib.hid hBW
  have hk1 : (baitErr c R == 0) = false := by simpa using hk
  have hk2 : (baitErr c R != 0) = true := by simp [bne, hk1]
  clear hr htr hu hn hBW hcA hk
  go_enter Tryz.func12, Tryz.ntmps12
  go_wp2_with fail
  refine HBT.out.mono ?_
  rintro e w3 ⟨q, rfl, hb3⟩
  have HD := Lib.hid hb3
  clear hb3
  go_wp2_with fail
  go_ret2
  have h1 := HB.out.trans (HD.out.mono (by simp; omega))
  exact ⟨rfl, (h1.alloc h1.size _).alloc (by simp; exact Nat.le_succ_of_le h1.size) _⟩
end Go.Proofs.YtnhifinfjfpoiaaGreat
