/- Contracts of the two questions of rat.Apart: more houses first, and whether houses are apart. Contract of rat.Apart. -/
import Derived.Test.YtnhifinfjfpoiaaGreatK06
namespace Go.Proofs.YtnhifinfjfpoiaaGreat
open Go.RowKit
set_option linter.unusedVariables false
attribute [local go_sem] Oper.semAt_some

/-- More houses, or as many, and earlier ones. -/
def manyB (a b : List Int) : Bool := decide (b.length < a.length) || (decide (a.length = b.length) && decide (cmpL a b < 0))
theorem many_any (a b : List Int) (va vb : Value) (w : World) (ha : IsInts w w.heap.size va a) (hb : IsInts w w.heap.size vb b) :
    Calls Tryz.prog 57 #[va, vb] w fun e w' => e = .returned (.bool (manyB a b)) ∧ w = w' := by
  have HC := Lib.hid (compare_any a b va vb w ha hb)
  obtain ⟨aa, ca, rfl, a1, a2, a3⟩ := ha.open
  obtain ⟨ab, cb, rfl, b1, b2, b3⟩ := hb.open
  have hf : manyB a b = (decide (b.length < a.length) || (decide (a.length = b.length) && decide (cmpL a b < 0))) := rfl
  clear ha hb a3 b3
  by_cases h1 : b.length < a.length
  · have e1 : (b.length : Int) < a.length := by omega
    rw [show manyB a b = true by rw [hf]; simp [h1]]
    clear hf
    go_enter Tryz.func57, Tryz.ntmps57
    go_wp2_with fail
    all_goals (first | (refine ⟨fun _ h => (by cases h), ?_⟩; go_wp2_with fail) | skip)
    go_ret
    exact ⟨rfl, rfl⟩
  · have e1 : ¬ (b.length : Int) < a.length := by omega
    by_cases h2 : a.length = b.length
    · rw [show manyB a b = decide (cmpL a b < 0) by rw [hf]; simp [h2]]
      rw [← h2] at HC e1 ⊢
      clear hf h1 h2 b1 b2
      go_enter Tryz.func57, Tryz.ntmps57
      go_wp2_with (go_at_call 51; refine HC.out.mono ?_; rintro e w5 ⟨rfl, rfl⟩)
      go_ret
      exact ⟨rfl, rfl⟩
    · have e2 : ¬ (a.length : Int) = b.length := by omega
      rw [show manyB a b = false by rw [hf]; simp [h1, h2]]
      clear hf
      go_enter Tryz.func57, Tryz.ntmps57
      go_wp2_with fail
      all_goals (first | (refine ⟨fun _ h => (by cases h), ?_⟩; go_wp2_with fail) | skip)
      go_ret
      exact ⟨rfl, rfl⟩
/-- Of two sets no more than one house in common. -/
def oneB (s t : Nat) : Bool := (s &&& t) &&& ((s &&& t) - 1) == 0
def apartB (c : Col) (R s : Nat) : Bool := allB (fun h => oneB s (reachN c h R)) c.rooms.length
theorem bits_low_fin : ∀ a : Fin 64, bits BinOp.and IntKind.i64 (a.val : Int) ((a.val : Int) - 1) = ((a.val &&& (a.val - 1) : Nat) : Int) := by decide +kernel
theorem bits_low {a : Nat} (ha : a < 64) : bits BinOp.and IntKind.i64 (a : Int) ((a : Int) - 1) = ((a &&& (a - 1) : Nat) : Int) := bits_low_fin ⟨a, ha⟩
theorem and_lt {a b : Nat} (ha : a < 64) : a &&& b < 64 := Nat.lt_of_le_of_lt Nat.and_le_left ha

set_option maxRecDepth 100000 in
set_option maxHeartbeats 2000000 in
theorem apart_any (c : Col) (p R s bc bd br : Nat) (r : Value) (w : World) (hd : Desk w p c) (hR : R ≤ 3) (hs : s < 64) (hc6 : c.rooms.length ≤ 6) (hr : IsInts w w.heap.size r c.rooms) (x0 : w.cell? ⟨bc, 0, none⟩ = some r) (x1 : Boxed w bd 76 (.pointer (some ⟨p, 0, none⟩))) (x2 : Boxed w br 3 (.int .i64 R)) :
    Calls Tryz.prog 58 #[.int .i64 s, .pointer (some ⟨bc, 0, none⟩), .pointer (some ⟨bd, 0, none⟩), .pointer (some ⟨br, 0, none⟩)] w fun e w' => e = .returned (.bool (apartB c R s)) ∧ Below w.heap.size w w' := by
  obtain ⟨ar, cr, rfl, _, _, _⟩ := hr.open
  have HD := Lib.hid hd
  have HX := Lib.hid (And.intro (block_lt_of_cell x0) (And.intro (Boxed.cell x1) (And.intro (Array.getElem?_eq_some_iff.1 x1).1 (And.intro (Boxed.cell x2) (Array.getElem?_eq_some_iff.1 x2).1))))
  have H0 := Lib.hid x0
  clear hd x1 x2 hr
  go_enter Tryz.func58, Tryz.ntmps58
  go_wp2_with fail
  clear x0
  go_loopw [11] (fun i wr => ∃ k : Nat, k ≤ c.rooms.length ∧ i = .int .i64 k ∧ Hid ((∀ h, h < k → oneB s (reachN c h R) = true) ∧ Below w.heap.size w wr)) (fun i _ => c.rooms.length - (intOf i).toNat)
  case atStart => exact ⟨0, Nat.zero_le _, rfl, fun h hh => by omega, Below.refl _ _⟩
  case round =>
    obtain ⟨k, hk, rfl, HQ⟩ := hrel
    by_cases hlt : k < c.rooms.length
    · have hki : (k : Int) < c.rooms.length := by omega
      have hk6 : k < 6 := by omega
      have c1 := (HQ.out.2.cell (p := ⟨bd, 0, none⟩) HX.out.2.2.1).trans HX.out.2.1
      have c2 := (HQ.out.2.cell (p := ⟨br, 0, none⟩) HX.out.2.2.2.2).trans HX.out.2.2.2.1
      have HDW := Lib.hid (HD.out.below HQ.out.2.drew)
      have hrl := reachN_lt c k hk6 R
      have hb1 := bits_and hs hrl
      obtain ⟨m, hm⟩ : ∃ m, s &&& reachN c k R = m := ⟨_, rfl⟩
      have hm6 : m < 64 := by rw [← hm]; exact and_lt hs
      have hone : oneB s (reachN c k R) = (m &&& (m - 1) == 0) := by unfold oneB; rw [hm]
      rw [hm] at hb1
      have hb2 := bits_low hm6
      have HONE := Lib.hid hone
      have hws : IntKind.i64.wrap ((m : Int) - 1) = (m : Int) - 1 := by rw [IntKind.wrap_i64]; omega
      clear hm hone hrl
      have hdw := HD.out.below HQ.out.2
      cases ho : (m &&& (m - 1) == 0)
      · have hz : (m &&& (m - 1)) ≠ 0 := by intro e; rw [e] at ho; cases ho
        have hz' : ¬ ((m &&& (m - 1) : Nat) : Int) = 0 := fun e => hz (Int.natCast_eq_zero.1 e)
        have e : apartB c R s = false := by
          unfold apartB
          rw [Bool.eq_false_iff]
          intro h
          rw [allB_iff] at h
          have := h k hlt
          rw [HONE.out, ho] at this
          cases this
        have HE := Lib.hid e
        clear e ho hz
        go_wp2_with fail
        refine (reaches_any c p k R _ hdw hk6 hR).mono ?_
        rintro e w2 ⟨rfl, hb3⟩
        have HZ := Lib.hid (HQ.out.2.trans (hb3.mono HQ.out.2.size))
        clear hb3 HQ hdw
        go_wp2_with fail
        go_ret
        exact ⟨ret_bool HE.out.symm, HZ.out⟩
      · have hz : (m &&& (m - 1)) = 0 := by simpa using ho
        rw [hz] at hb2
        rw [ho] at HONE
        clear ho hz
        go_wp2_with fail
        refine (reaches_any c p k R _ hdw hk6 hR).mono ?_
        rintro e w2 ⟨rfl, hb3⟩
        have HZ := Lib.hid (HQ.out.2.trans (hb3.mono HQ.out.2.size))
        clear hb3 hdw
        go_wp2_with fail
        go_roundw
        case rel =>
          refine ⟨k + 1, by omega, by go_num, fun h hh => ?_, HZ.out⟩
          by_cases e : h = k
          · rw [e]; exact HONE.out
          · exact HQ.out.1 h (by omega)
        case measure => simp [intOf]; omega
    · obtain rfl : k = c.rooms.length := by omega
      have e : apartB c R s = true := by unfold apartB; rw [allB_iff]; exact HQ.out.1
      have HE := Lib.hid e
      have HZ := Lib.hid HQ.out.2
      clear e HQ
      go_wp2_with fail
      go_ret
      exact ⟨ret_bool HE.out.symm, HZ.out⟩
end Go.Proofs.YtnhifinfjfpoiaaGreat

namespace Go.Proofs.YtnhifinfjfpoiaaGreat
open Go.RowKit
set_option linter.unusedVariables false
attribute [local go_sem] Oper.semAt_some

def apartC (c : Col) (R : Nat) : List Int := bestF manyB (posC c) (apartB c R)

set_option maxRecDepth 100000 in
set_option maxHeartbeats 2000000 in
theorem Apart_ok (c : Col) (r t u n : Value) (R : Int) (w : World) (hc : ColAt w w.heap.size r t u n c) (hk : baitErr c R = 0) :
    Calls Tryz.prog 14 #[.agg #[r, t, u, n], .int .i64 R] w fun e w' => ∃ v, e = .returned (.tuple #[v, .int .i64 0]) ∧ IsInts w' w'.heap.size v (apartC c R.toNat) ∧ Below w.heap.size w w' := by
  obtain ⟨k0, k1, k2⟩ := bait_in hk
  have a := inB_true k1
  obtain ⟨M, rfl⟩ : ∃ M : Nat, R = M := ⟨R.toNat, by omega⟩
  have hM : M ≤ 3 := by omega
  have o2 := (okCol_of k0).houses.2
  have hBW : Below w.heap.size w ((w.alloc (.cells #[r, t, u, n] 26)).alloc (.cells #[.int .i64 M] 3)) := ((Below.refl w.heap.size w).alloc (Nat.le_refl _) _).alloc (by simp) _
  have hcA := (hc.below hBW (Nat.le_refl _)).mono (B' := ((w.alloc (.cells #[r, t, u, n] 26)).alloc (.cells #[.int .i64 M] 3)).heap.size) (by simp; omega)
  have HBT := Lib.hid (baited_ok c r t u n M _ hcA hk)
  have hx1 : Boxed ((w.alloc (.cells #[r, t, u, n] 26)).alloc (.cells #[.int .i64 M] 3)) (w.heap.size + 1) 3 (.int .i64 M) := by
    have := Boxed.new (w.alloc (.cells #[r, t, u, n] 26)) 3 (.int .i64 M)
    rw [World.size_alloc] at this
    exact this
  have hx0 : ((w.alloc (.cells #[r, t, u, n] 26)).alloc (.cells #[.int .i64 M] 3)).cell? ⟨w.heap.size, 0, none⟩ = some r := by simp [go_sem]
  have HRI := Lib.hid hcA.1
  obtain ⟨hr, htr, hu, hn⟩ := hc
  obtain ⟨ar, cr, rfl, _⟩ := hr.open
  obtain ⟨at_, ct, rfl, _⟩ := htr.open
  obtain ⟨au, cu, rfl, _⟩ := hu.open
  obtain ⟨an, cn, rfl, _⟩ := hn.open
  have HB := Lib.hid hBW; have HX := Lib.hid (And.intro hx0 hx1)
  clear hr htr hu hn hBW hcA hk k0 k1 k2 hx0 hx1 a
  go_enter Tryz.func14, Tryz.ntmps14
  go_wp2_with fail
  refine HBT.out.mono ?_
  rintro e w3 ⟨p, rfl, hd, hb3⟩
  have c0 := (hb3.cell (p := ⟨w.heap.size, 0, none⟩) (by simp; omega)).trans HX.out.1
  have x1 := (hb3.block _ (by simp)).trans HX.out.2
  have HD := Lib.hid (And.intro hb3 (And.intro hd x1))
  clear hb3 hd x1
  go_wp2_with fail
  have hw6 : ∀ W6, ((w3.alloc (.cells #[.pointer (some ⟨p, 0, none⟩)] 76)).alloc (.cells #[.func (.func 57) #[] #[]] 92)) = W6 →
      W6.cell? ⟨w3.heap.size + 1, 0, none⟩ = some (.func (.func 57) #[] #[]) ∧ Boxed W6 w3.heap.size 76 (.pointer (some ⟨p, 0, none⟩)) ∧ Below w3.heap.size w3 W6 := by
    rintro _ rfl
    exact ⟨by simp [go_sem], (Boxed.new w3 _ _).alloc _, ((Below.refl _ w3).alloc (Nat.le_refl _) _).alloc (by simp) _⟩
  obtain ⟨W6, hW6⟩ : ∃ W6, ((w3.alloc (.cells #[.pointer (some ⟨p, 0, none⟩)] 76)).alloc (.cells #[.func (.func 57) #[] #[]] 92)) = W6 := ⟨_, rfl⟩
  obtain ⟨d1, d2, d4⟩ := hw6 _ hW6
  have hb3 := HD.out.1
  have hsz3 := hb3.size
  have d0 := (d4.cell (p := ⟨w.heap.size, 0, none⟩) (Nat.lt_of_lt_of_le (by simp; omega) hsz3)).trans c0
  have d5 := (d4.block (w.heap.size + 1) (Nat.lt_of_lt_of_le (by simp) hsz3)).trans HD.out.2.2
  have hd6 := HD.out.2.1.below d4
  have hs6 := d4.size
  have hri := ((HRI.out.below (hb3.trans (d4.mono hsz3)) (Nat.le_refl _)).mono (Nat.le_trans hsz3 hs6))
  rw [hW6]
  have HW := Lib.hid (And.intro d2 (And.intro d0 (And.intro d4 (And.intro d5 (And.intro hd6 hri)))))
  clear hW6 hw6 d2 d4 d5 hd6 hb3 hsz3 c0 hs6 hri d0
  have HC := Lib.hid (best_any manyB 57 Tryz.call57 many_any (posC c) (posTo_lt _ _ o2) 58 #[.pointer (some ⟨w.heap.size, 0, none⟩), .pointer (some ⟨w3.heap.size, 0, none⟩), .pointer (some ⟨w.heap.size + 1, 0, none⟩)] (apartB c M) Tryz.call58 W6 (fun s hs w' hb => by
    obtain ⟨e2, e0, e4, e5, e6, e7⟩ := HW.out
    exact apart_any c p M s w.heap.size w3.heap.size (w.heap.size + 1) _ w' (e6.below hb) hM hs o2 ((e7.below hb (Nat.le_refl _)).mono hb.size) ((hb.cell (p := ⟨w.heap.size, 0, none⟩) (block_lt_of_cell e0)).trans e0) ((hb.block _ (Array.getElem?_eq_some_iff.1 e2).1).trans e2) ((hb.block _ (Array.getElem?_eq_some_iff.1 e5).1).trans e5)))
  go_wp2_with (go_at_call 52; refine HC.out.mono ?_; rintro e w7 ⟨v, rfl, hv, hb7⟩; have H7 := Lib.hid (And.intro hv hb7); clear hv hb7)
  go_ret2
  have h1 := HB.out.trans (HD.out.1.mono (by simp; omega))
  have h2 := h1.trans (HW.out.2.2.1.mono h1.size)
  exact ⟨v, rfl, H7.out.1, h2.trans (H7.out.2.mono h2.size)⟩

set_option maxRecDepth 100000 in
theorem Apart_bad (c : Col) (r t u n : Value) (R : Int) (w : World) (hc : ColAt w w.heap.size r t u n c) (hk : ¬ baitErr c R = 0) :
    Calls Tryz.prog 14 #[.agg #[r, t, u, n], .int .i64 R] w fun e w' => e = .returned (.tuple #[.slice none 0 0, .int .i64 (baitErr c R)]) ∧ Below w.heap.size w w' := by
  have hBW : Below w.heap.size w ((w.alloc (.cells #[r, t, u, n] 26)).alloc (.cells #[.int .i64 R] 3)) := ((Below.refl w.heap.size w).alloc (Nat.le_refl _) _).alloc (by simp) _
  have hcA := (hc.below hBW (Nat.le_refl _)).mono (B' := ((w.alloc (.cells #[r, t, u, n] 26)).alloc (.cells #[.int .i64 R] 3)).heap.size) (by simp; omega)
  have HBT := Lib.hid (baited_bad c r t u n R _ hcA hk)
  obtain ⟨hr, htr, hu, hn⟩ := hc
  obtain ⟨ar, cr, rfl, _⟩ := hr.open
  obtain ⟨at_, ct, rfl, _⟩ := htr.open
  obtain ⟨au, cu, rfl, _⟩ := hu.open
  obtain ⟨an, cn, rfl, _⟩ := hn.open
  have HB := Lib.hid hBW
  have hk1 : (baitErr c R == 0) = false := by simpa using hk
  have hk2 : (baitErr c R != 0) = true := by simp [bne, hk1]
  clear hr htr hu hn hBW hcA hk
  go_enter Tryz.func14, Tryz.ntmps14
  go_wp2_with fail
  refine HBT.out.mono ?_
  rintro e w3 ⟨q, rfl, hb3⟩
  have HD := Lib.hid hb3
  clear hb3
  go_wp2_with fail
  go_ret2
  have h1 := HB.out.trans (HD.out.mono (by simp; omega))
  exact ⟨rfl, h1.alloc h1.size _⟩
end Go.Proofs.YtnhifinfjfpoiaaGreat
