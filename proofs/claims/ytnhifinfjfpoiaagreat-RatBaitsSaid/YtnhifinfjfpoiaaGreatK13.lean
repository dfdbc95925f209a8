/- Contracts of the reference's small functions: bit, within, sets, only, everywhere, caught. Contracts of the reference's only, everywhere and caught. Who may still be there, in plain Lean. Contracts of the reference's stay and stays. Contract of the reference's stays. Contract of the reference's room: the least, over all sets of houses, of their rooms and the rats that can come from elsewhere. Contract of the reference's groups. Groups of one's own are groups that are read, and a room can be told of them. -/
import Derived.Test.YtnhifinfjfpoiaaGreatK11
import Derived.Test.YtnhifinfjfpoiaaGreatK07
import Derived.Test.YtnhifinfjfpoiaaGreatK02
import Derived.Test.YtnhifinfjfpoiaaGreatK04
import Derived.Test.YtnhifinfjfpoiaaGreatK10
import Derived.Deep.AppendLies
import Derived.Deep.RegionLaw
import Derived.Deep.DeepMust
namespace Go.Proofs.YtnhifinfjfpoiaaGreat
open Go.RowKit
set_option linter.unusedVariables false
set_option linter.unusedSimpArgs false

theorem testBit_div (s h : Nat) : s.testBit h = decide (s / 2 ^ h % 2 = 1) := by
  rw [Nat.testBit, Nat.shiftRight_eq_div_pow, Nat.one_and_eq_mod_two]
  have : s / 2 ^ h % 2 = 0 ∨ s / 2 ^ h % 2 = 1 := by omega
  rcases this with e | e <;> rw [e] <;> rfl
/-- A set divided so often by two. -/
def halfN (s k : Nat) : Nat := s / 2 ^ k
theorem halfN_succ (s k : Nat) : halfN s (k + 1) = halfN s k / 2 := by unfold halfN; rw [Nat.pow_succ, ← Nat.div_div_eq_div_mul]
theorem halfN_le (s k : Nat) : halfN s k ≤ s := Nat.div_le_self _ _
theorem bit_any (s h : Nat) (w : World) (hs : s ≤ 1000) (hh : h ≤ 100) : Calls Tryz.prog 128 #[.int .i64 s, .int .i64 h] w fun e w' => e = .returned (.bool (s.testBit h)) ∧ w = w' := by
  go_enter Tryz.func128, Tryz.ntmps128
  go_wp2_with fail
  go_loopw [0, 5] (fun v i wr => ∃ k : Nat, k ≤ h ∧ i = .int .i64 k ∧ v = .int .i64 (halfN s k : Nat) ∧ w = wr) (fun _ i _ => h - (intOf i).toNat)
  case atStart => exact ⟨0, Nat.zero_le _, rfl, by simp [halfN], rfl⟩
  case round =>
    obtain ⟨k, hk, rfl, rfl, rfl⟩ := hrel
    have hle := halfN_le s k
    by_cases hlt : k < h
    · have hki : (k : Int) < h := by omega
      go_wp2_with fail
      go_roundw
      case rel => exact ⟨k + 1, by omega, by go_num, by rw [halfN_succ]; simp, by simp⟩
      case measure => simp [intOf]; omega
    · obtain rfl : k = h := by omega
      have he : Hid (s.testBit k = decide (halfN s k % 2 = 1)) := testBit_div s k
      go_wp2_with fail
      go_ret
      refine ⟨ret_bool ?_, rfl⟩
      rw [he.out]
      rw [Bool.eq_iff_iff]; simp; omega

def withinB (l : List Bool) (s : Nat) : Bool := allB (fun h => !nthB l h || s.testBit h) l.length
theorem within_any (l : List Bool) (s : Nat) (v : Value) (w : World) (hv : IsBools w w.heap.size v l) (hs : s ≤ 1000) (hl : l.length ≤ 6) :
    Calls Tryz.prog 129 #[v, .int .i64 s] w fun e w' => e = .returned (.bool (withinB l s)) ∧ w = w' := by
  obtain ⟨a, c, rfl, _, _, h3⟩ := hv.open
  have H3 := Lib.hid h3
  clear hv h3
  go_enter Tryz.func129, Tryz.ntmps129
  go_wp2_with fail
  go_loopw [5] (fun i wr => ∃ k : Nat, k ≤ l.length ∧ i = .int .i64 k ∧ Hid (∀ j, j < k → (!nthB l j || s.testBit j) = true) ∧ w = wr) (fun i _ => l.length - (intOf i).toNat)
  case atStart => exact ⟨0, Nat.zero_le _, rfl, fun j hj => by omega, rfl⟩
  case round =>
    obtain ⟨k, hk, rfl, hdone, rfl⟩ := hrel
    by_cases hlt : k < l.length
    · have hki : (k : Int) < l.length := by omega
      obtain ⟨b, off, rfl, hb, hcell⟩ := H3.out k hlt
      have HBT := Lib.hid (bit_any s k w hs (by omega))
      cases hq : nthB l k
      · rw [hq] at hcell
        have HQ := Lib.hid hq
        clear hq
        go_wp2_with fail
        go_roundw
        case rel =>
          refine ⟨k + 1, by omega, by go_num, fun j hj => ?_, by simp⟩
          rcases Nat.lt_succ_iff_lt_or_eq.1 hj with q | q
          · exact hdone.out j q
          · subst q; rw [HQ.out]; rfl
        case measure => simp [intOf]; omega
      · rw [hq] at hcell
        have HQ := Lib.hid hq
        clear hq
        cases hq2 : s.testBit k
        · have hbt := HBT.out
          rw [hq2] at hbt
          have HB2 := Lib.hid hbt
          have HQ2 := Lib.hid hq2
          clear hq2 hbt HBT
          go_wp2_with (go_at_call 128; refine HB2.out.mono ?_; rintro e w5 ⟨rfl, rfl⟩)
          go_ret
          exact ⟨ret_bool (by unfold withinB; rw [allB_false (i := k) hlt (by rw [HQ.out, HQ2.out]; rfl)]), rfl⟩
        · have hbt := HBT.out
          rw [hq2] at hbt
          have HB2 := Lib.hid hbt
          have HQ2 := Lib.hid hq2
          clear hq2 hbt HBT
          go_wp2_with (go_at_call 128; refine HB2.out.mono ?_; rintro e w5 ⟨rfl, rfl⟩)
          go_roundw
          case rel =>
            refine ⟨k + 1, by omega, by go_num, fun j hj => ?_, by simp⟩
            rcases Nat.lt_succ_iff_lt_or_eq.1 hj with q | q
            · exact hdone.out j q
            · subst q; rw [HQ2.out]; simp
          case measure => simp [intOf]; omega
    · obtain rfl : k = l.length := by omega
      go_wp2_with fail
      go_ret
      exact ⟨ret_bool (by unfold withinB; rw [allB_true hdone.out]), rfl⟩

def pow2 (k : Nat) : Nat := 2 ^ k
theorem pow2_succ (k : Nat) : pow2 (k + 1) = 2 * pow2 k := by unfold pow2; rw [Nat.pow_succ, Nat.mul_comm]
theorem pow2_le {k : Nat} (h : k ≤ 6) : pow2 k ≤ 64 := by
  match k, h with
  | 0, _ => decide
  | 1, _ => decide
  | 2, _ => decide
  | 3, _ => decide
  | 4, _ => decide
  | 5, _ => decide
  | 6, _ => decide
theorem sets_any (c : Col) (r t u n : Value) (w : World) (hc : ColAt w w.heap.size r t u n c) (h6 : c.rooms.length ≤ 6) :
    Calls Tryz.prog 127 #[.agg #[r, t, u, n]] w fun e w' => e = .returned (.int .i64 (pow2 c.rooms.length : Nat)) ∧ Below w.heap.size w w' := by
  have hBW : Below w.heap.size w (w.alloc (.cells #[r, t, u, n] 32)) := (Below.refl _ w).alloc (Nat.le_refl _) _
  obtain ⟨hr, htr, hu, hn⟩ := hc
  obtain ⟨ar, cr, rfl, _⟩ := hr.open
  obtain ⟨at_, ct, rfl, _⟩ := htr.open
  obtain ⟨au, cu, rfl, _⟩ := hu.open
  obtain ⟨an, cn, rfl, _⟩ := hn.open
  have HB := Lib.hid hBW
  have c0 : (w.alloc (.cells #[.slice ar c.rooms.length cr, .slice at_ c.traps.length ct, .slice au c.runs.length cu, .slice an c.nights.length cn] 32)).cell? ⟨w.heap.size, 0, none⟩ = some (.slice ar c.rooms.length cr) := by simp [go_sem]
  clear hr htr hu hn hBW
  go_enter Tryz.func127, Tryz.ntmps127
  go_wp2_with fail
  obtain ⟨W1, hW1⟩ : ∃ W1, (w.alloc (.cells #[.slice ar c.rooms.length cr, .slice at_ c.traps.length ct, .slice au c.runs.length cu, .slice an c.nights.length cn] 32)) = W1 := ⟨_, rfl⟩
  rw [hW1] at c0 HB ⊢
  clear hW1
  go_loopw [3, 4] (fun v i wr => ∃ k : Nat, k ≤ c.rooms.length ∧ i = .int .i64 k ∧ v = .int .i64 (pow2 k : Nat) ∧ W1 = wr) (fun _ i _ => c.rooms.length - (intOf i).toNat)
  case atStart => exact ⟨0, Nat.zero_le _, rfl, rfl, rfl⟩
  case round =>
    obtain ⟨k, hk, rfl, rfl, rfl⟩ := hrel
    have hp := pow2_le (k := k) (by omega)
    by_cases hlt : k < c.rooms.length
    · have hki : (k : Int) < c.rooms.length := by omega
      go_wp2_with fail
      go_roundw
      case rel => exact ⟨k + 1, by omega, by go_num, by rw [pow2_succ]; simp, by simp⟩
      case measure => simp [intOf]; omega
    · obtain rfl : k = c.rooms.length := by omega
      go_wp2_with fail
      go_ret
      exact ⟨rfl, HB.out⟩
end Go.Proofs.YtnhifinfjfpoiaaGreat

namespace Go.Proofs.YtnhifinfjfpoiaaGreat
open Go.RowKit
set_option linter.unusedVariables false
set_option linter.unusedSimpArgs false

theorem BoolsAt.is {w : World} {b : Nat} {xs : List Bool} (h : BoolsAt w b xs) (hl : xs.length ≤ 100) : IsBools w w.heap.size (.slice (some ⟨b, 0, none⟩) xs.length xs.length) xs :=
  ⟨some ⟨b, 0, none⟩, xs.length, rfl, Nat.le_refl _, by omega, .inr ⟨b, 0, rfl, (Array.getElem?_eq_some_iff.1 h).1, fun j hj => by
    rw [Nat.zero_add]; exact h.cell j (by omega)⟩⟩
theorem IsBools.on {w w' : World} {v : Value} {xs : List Bool} (h : IsBools w w.heap.size v xs) (hb : Below w.heap.size w w') : IsBools w' w'.heap.size v xs := (h.below hb (Nat.le_refl _)).mono hb.size

/-- One house alone; all houses. -/
def onlyL (n h : Nat) : List Bool := (List.range n).map (fun j => h == j)
theorem onlyL_get {n h i : Nat} (hi : i < (onlyL n h).length) : (onlyL n h)[i] = (h == i) := by simp [onlyL]
theorem onlyL_set {n h : Nat} (hh : h < n) : (List.replicate n false).set h true = onlyL n h := by
  refine List.ext_getElem (by simp [onlyL]) fun i h1 h2 => ?_
  rw [List.getElem_set, onlyL_get h2]
  by_cases e : h = i
  · subst e; simp
  · rw [if_neg e]; simp [e]
theorem only_any (c : Col) (r t u n : Value) (h : Nat) (w : World) (hc : ColAt w w.heap.size r t u n c) (h6 : c.rooms.length ≤ 6) (hh : h < c.rooms.length) :
    Calls Tryz.prog 98 #[.agg #[r, t, u, n], .int .i64 h] w fun e w' => ∃ b, e = .returned (.slice (some ⟨b, 0, none⟩) c.rooms.length c.rooms.length) ∧ BoolsAt w' b (onlyL c.rooms.length h) ∧ w.heap.size ≤ b ∧ Below w.heap.size w w' := by
  have hBW : Below w.heap.size w (w.alloc (.cells #[r, t, u, n] 32)) := (Below.refl _ w).alloc (Nat.le_refl _) _
  obtain ⟨hr, htr, hu, hn⟩ := hc
  obtain ⟨ar, cr, rfl, _⟩ := hr.open
  obtain ⟨at_, ct, rfl, _⟩ := htr.open
  obtain ⟨au, cu, rfl, _⟩ := hu.open
  obtain ⟨an, cn, rfl, _⟩ := hn.open
  have hfi : (h : Int) < c.rooms.length := by omega
  have hmk := fun W => make_bools c.rooms.length (by omega) W
  clear hr htr hu hn
  have e0 : ((w.alloc (.cells #[.slice ar c.rooms.length cr, .slice at_ c.traps.length ct, .slice au c.runs.length cu, .slice an c.nights.length cn] 32)).alloc (.cells (bw (List.replicate c.rooms.length false)) 4)).cell? ⟨w.heap.size + 1, h, none⟩ = some (.bool false) := by
    have h : BoolsAt ((w.alloc (.cells #[.slice ar c.rooms.length cr, .slice at_ c.traps.length ct, .slice au c.runs.length cu, .slice an c.nights.length cn] 32)).alloc (.cells (bw (List.replicate c.rooms.length false)) 4)) (w.heap.size + 1) (List.replicate c.rooms.length false) := blk _ _ _ _ (by simp)
    rw [h.cell _ (by simpa using hh)]; simp [nthB, hh]
  have HB := Lib.hid hBW
  clear hBW
  go_enter Tryz.func98, Tryz.ntmps98
  go_wp2_with fail
  go_ret
  refine ⟨w.heap.size + 1, rfl, ?_, by omega, HB.out.alloc HB.out.size _⟩
  rw [bw_set, onlyL_set hh]
  exact blk _ _ _ _ (by simp)

def allL (n k : Nat) : List Bool := (List.range n).map (fun j => decide (j < k))
theorem allL_zero (n : Nat) : allL n 0 = List.replicate n false := by
  refine List.ext_getElem (by simp [allL]) fun i h1 h2 => ?_
  simp [allL]
theorem allL_get {n k i : Nat} (hi : i < (allL n k).length) : (allL n k)[i] = decide (i < k) := by simp [allL]
theorem allL_set {n k : Nat} (hk : k < n) : (allL n k).set k true = allL n (k + 1) := by
  refine List.ext_getElem (by simp [allL]) fun i h1 h2 => ?_
  rw [List.getElem_set, allL_get h2]
  by_cases e : k = i
  · subst e; simp
  · rw [if_neg e, allL_get, decide_eq_decide]; omega
theorem allL_all (n : Nat) : allL n n = List.replicate n true := by
  refine List.ext_getElem (by simp [allL]) fun i h1 h2 => ?_
  simp [allL] at h1 ⊢; exact h1
theorem allL_len (n k : Nat) : (allL n k).length = n := by simp [allL]
set_option maxHeartbeats 1000000 in
theorem everywhere_any (c : Col) (r t u n : Value) (w : World) (hc : ColAt w w.heap.size r t u n c) (h6 : c.rooms.length ≤ 6) :
    Calls Tryz.prog 111 #[.agg #[r, t, u, n]] w fun e w' => ∃ b, e = .returned (.slice (some ⟨b, 0, none⟩) c.rooms.length c.rooms.length) ∧ BoolsAt w' b (List.replicate c.rooms.length true) ∧ w.heap.size ≤ b ∧ Below w.heap.size w w' := by
  have hBW : Below w.heap.size w (w.alloc (.cells #[r, t, u, n] 32)) := (Below.refl _ w).alloc (Nat.le_refl _) _
  obtain ⟨hr, htr, hu, hn⟩ := hc
  obtain ⟨ar, cr, rfl, _⟩ := hr.open
  obtain ⟨at_, ct, rfl, _⟩ := htr.open
  obtain ⟨au, cu, rfl, _⟩ := hu.open
  obtain ⟨an, cn, rfl, _⟩ := hn.open
  have hmk := fun W => make_bools c.rooms.length (by omega) W
  have HB := Lib.hid hBW
  clear hr htr hu hn hBW
  have h0 : BoolsAt ((w.alloc (.cells #[.slice ar c.rooms.length cr, .slice at_ c.traps.length ct, .slice au c.runs.length cu, .slice an c.nights.length cn] 32)).alloc (.cells (bw (List.replicate c.rooms.length false)) 4)) (w.heap.size + 1) (allL c.rooms.length 0) := by rw [allL_zero]; exact blk _ _ _ _ (by simp)
  have H0 := Lib.hid h0
  clear h0
  go_enter Tryz.func111, Tryz.ntmps111
  go_wp2_with fail
  go_loopw [4] (fun i wr => ∃ k : Nat, k ≤ c.rooms.length ∧ i = .int .i64 k ∧ Hid (BoolsAt wr (w.heap.size + 1) (allL c.rooms.length k) ∧ Below w.heap.size w wr)) (fun i _ => c.rooms.length - (intOf i).toNat)
  case atStart => exact ⟨0, Nat.zero_le _, rfl, H0.out, HB.out.alloc HB.out.size _⟩
  case round =>
    obtain ⟨k, hk, rfl, HR⟩ := hrel
    by_cases hlt : k < c.rooms.length
    · have hki : (k : Int) < c.rooms.length := by omega
      have c1 := HR.out.1.cell k (by rw [allL_len]; exact hlt)
      have f1 := HR.out.1.free k
      go_wp2_with fail
      go_roundw
      case rel =>
        refine ⟨k + 1, by omega, by go_num, ?_⟩
        rw [← allL_set hlt]
        exact ⟨HR.out.1.set k true, HR.out.2.setCell (p := ⟨w.heap.size + 1, k, none⟩) (Nat.le_succ _) _⟩
      case measure => simp [intOf]; omega
    · obtain rfl : k = c.rooms.length := by omega
      go_wp2_with fail
      go_ret
      exact ⟨w.heap.size + 1, rfl, by rw [← allL_all]; exact HR.out.1, Nat.le_succ _, HR.out.2⟩

/-- All that were caught, night by night. -/
def caughtRow (c : Col) (n k : Nat) : Int := sumN (fun h => nth (nthR c.nights n) h) k
def caughtTo (c : Col) (n : Nat) : Int := sumN (fun i => caughtRow c i c.rooms.length) n
def caughtR (c : Col) : Int := caughtTo c c.nights.length
theorem caughtRow_bound {c : Col} (ok : OkCol c) {n k : Nat} (hn : n < c.nights.length) (hk : k ≤ c.rooms.length) : 0 ≤ caughtRow c n k ∧ caughtRow c n k ≤ 9 * k := by
  constructor
  · exact sumN_nonneg fun i hi => (ok.night n i hn (by omega)).1
  · exact sumN_bound fun i hi => by have := ok.night n i hn (by omega); have := ok.trap i (by omega); omega
theorem caughtTo_bound {c : Col} (ok : OkCol c) {n : Nat} (hn : n ≤ c.nights.length) : 0 ≤ caughtTo c n ∧ caughtTo c n ≤ 54 * n := by
  have o2 := ok.houses.2
  constructor
  · exact sumN_nonneg fun i hi => (caughtRow_bound ok (by omega) (Nat.le_refl _)).1
  · exact sumN_bound fun i hi => by have := (caughtRow_bound ok (n := i) (by omega) (Nat.le_refl c.rooms.length)).2; omega
set_option maxRecDepth 100000 in
set_option maxHeartbeats 1000000 in
theorem rcaught_any (c : Col) (r t u n : Value) (w : World) (hc : ColAt w w.heap.size r t u n c) (ok : OkCol c) :
    Calls Tryz.prog 108 #[.agg #[r, t, u, n]] w fun e w' => e = .returned (.int .i64 (caughtR c)) ∧ Below w.heap.size w w' := by
  have hBW : Below w.heap.size w (w.alloc (.cells #[r, t, u, n] 32)) := (Below.refl _ w).alloc (Nat.le_refl _) _
  have hcA := hc.on hBW
  have c0 : (w.alloc (.cells #[r, t, u, n] 32)).heap[w.heap.size]? = some (.cells #[r, t, u, n] 32 (0, 0)) := blk _ _ _ _ rfl
  obtain ⟨hr, htr, hu, hn⟩ := hc
  obtain ⟨ar, cr, rfl, _⟩ := hr.open
  obtain ⟨at_, ct, rfl, _⟩ := htr.open
  obtain ⟨au, cu, rfl, _⟩ := hu.open
  obtain ⟨an, cn, rfl, _, _, hn3⟩ := hn.open
  have HB := Lib.hid hBW; have HN := Lib.hid hn3; have HOK := Lib.hid ok
  have o2 := ok.houses.2
  have o4 := ok.nights
  obtain ⟨q0, q1, q2, q3⟩ := (And.intro ((cell_of_row _ _ 0 _ _ _ c0).trans rfl) (And.intro ((cell_of_row _ _ 1 _ _ _ c0).trans rfl) (And.intro ((cell_of_row _ _ 2 _ _ _ c0).trans rfl) ((cell_of_row _ _ 3 _ _ _ c0).trans rfl))) : _ ∧ _ ∧ _ ∧ _)
  clear hr htr hu hn hBW hcA c0 hn3 ok
  go_enter Tryz.func108, Tryz.ntmps108
  go_wp2_with fail
  obtain ⟨W1, hW1⟩ : ∃ W1, (w.alloc (.cells #[.slice ar c.rooms.length cr, .slice at_ c.traps.length ct, .slice au c.runs.length cu, .slice an c.nights.length cn] 32)) = W1 := ⟨_, rfl⟩
  rw [hW1] at q0 q1 q2 q3 HB ⊢
  clear hW1 q1 q2
  go_loopw [3, 4] (fun v i wr => ∃ k : Nat, k ≤ c.nights.length ∧ i = .int .i64 k ∧ v = .int .i64 (caughtTo c k) ∧ W1 = wr) (fun _ i _ => c.nights.length - (intOf i).toNat)
  case atStart => exact ⟨0, Nat.zero_le _, rfl, rfl, rfl⟩
  case round =>
    obtain ⟨k, hk, rfl, rfl, rfl⟩ := hrel
    by_cases hlt : k < c.nights.length
    · have hki : (k : Int) < c.nights.length := by omega
      obtain ⟨b, off, v, rfl, hbl, hcell, hrow⟩ := HN.out k hlt
      obtain ⟨a2, c2, rfl, _, l2, h3⟩ := hrow.open
      have hlen := HOK.out.row k hlt
      have HLEN := Lib.hid hlen
      have HR3 := Lib.hid h3
      have m1 := (HB.out.cell (p := ⟨b, off + k, none⟩) hbl).trans hcell
      have hb1 := caughtTo_bound HOK.out hk
      have hle : c.rooms.length ≤ (nthR c.nights k).length := by omega
      clear hcell hrow h3 hlen
      go_wp2_with fail
      go_loopw [3, 5] (fun v i wr => ∃ j : Nat, j ≤ c.rooms.length ∧ i = .int .i64 j ∧ v = .int .i64 (caughtTo c k + caughtRow c k j) ∧ W1 = wr) (fun _ i _ => c.rooms.length - (intOf i).toNat)
      case atStart => exact ⟨0, Nat.zero_le _, rfl, by simp [caughtRow, sumN], rfl⟩
      case round =>
        obtain ⟨j, hj, rfl, rfl, rfl⟩ := hrel
        by_cases hjl : j < c.rooms.length
        · have hji : (j : Int) < c.rooms.length := by omega
          have hji2 : (j : Int) < (nthR c.nights k).length := by omega
          obtain ⟨b2, off2, rfl, hbl2, hcell2⟩ := HR3.out j (by omega)
          have m2 := (HB.out.cell (p := ⟨b2, off2 + j, none⟩) hbl2).trans hcell2
          have hb2 := caughtRow_bound HOK.out hlt hj
          have hb3 := HOK.out.night k j hlt hjl
          have hb4 := HOK.out.trap j hjl
          have hs : caughtRow c k (j + 1) = caughtRow c k j + nth (nthR c.nights k) j := rfl
          have HS := Lib.hid hs
          clear hcell2 hs
          go_wp2_with fail
          go_roundw
          case rel => exact ⟨j + 1, by omega, by go_num, by rw [HS.out, Int.add_assoc], by simp⟩
          case measure => simp [intOf]; omega
        · obtain rfl : j = c.rooms.length := by omega
          go_wp2_with fail
          go_roundw
          case rel => exact ⟨k + 1, by omega, by go_num, rfl, by simp⟩
          case measure => simp [intOf]; omega
    · obtain rfl : k = c.nights.length := by omega
      go_wp2_with fail
      go_ret
      exact ⟨rfl, HB.out⟩
end Go.Proofs.YtnhifinfjfpoiaaGreat

namespace Go.Proofs.YtnhifinfjfpoiaaGreat
open Go.RowKit
set_option linter.unusedVariables false

/-- Can a rat be in house h after the last night that has come from house f? -/
def stayB (c : Col) (f h : Nat) : Bool := if c.nights.length = 0 then comeB c f 0 h else comeB c f (c.nights.length - 1) h && fullB c h (c.nights.length - 1)
theorem left_bit {c : Col} (ok : OkCol c) {h f : Nat} (hh : h < c.rooms.length) (hf : f < c.rooms.length) : (leftC c h).testBit f = stayB c f h := by
  unfold leftC stayB
  by_cases h0 : c.nights.length = 0
  · rw [if_neg (by omega), if_pos h0, h0]
    exact org_come ok 0 h f hh hf (Nat.zero_le _)
  · rw [if_neg h0, ← org_come ok (c.nights.length - 1) h f hh hf (by omega)]
    cases hq : fullB c h (c.nights.length - 1)
    · rw [if_pos ⟨hh, by omega, rfl⟩]; simp
    · rw [if_neg (by simp)]; simp
theorem org_out {c : Col} {h : Nat} (hh : ¬ h < c.rooms.length) : ∀ k, org c k h = 0
  | 0 => by unfold org; rw [if_neg hh]
  | k + 1 => by unfold org; rw [if_neg hh]
theorem left_out {c : Col} {h : Nat} (hh : ¬ h < c.rooms.length) : leftC c h = 0 := by
  unfold leftC; rw [if_neg (by omega), org_out hh]
theorem left_in {c : Col} (ok : OkCol c) {h f : Nat} (hb : (leftC c h).testBit f = true) : h < c.rooms.length ∧ f < c.rooms.length := by
  by_cases hh : h < c.rooms.length
  · refine ⟨hh, ?_⟩
    unfold leftC at hb
    split at hb
    · simp at hb
    · exact org_only ok _ h f hb
  · rw [left_out hh] at hb; simp at hb
theorem anyB_ex (p : Nat → Bool) : ∀ n, anyB p n = true ↔ ∃ i, i < n ∧ p i = true
  | 0 => by simp [anyB]
  | n + 1 => by
    rw [anyB_succ, Bool.or_eq_true, anyB_ex p n]
    constructor
    · rintro (⟨h, h1, h2⟩ | h)
      · exact ⟨h, by omega, h2⟩
      · exact ⟨n, by omega, h⟩
    · rintro ⟨h, h1, h2⟩
      by_cases q : h < n
      · exact .inl ⟨h, q, h2⟩
      · obtain rfl : h = n := by omega
        exact .inr h2
theorem union_bit (g : Nat → Nat) (f : Nat) : ∀ k, (unionTo g k).testBit f = true ↔ ∃ h, h < k ∧ (g h).testBit f = true
  | 0 => by simp [unionTo]
  | k + 1 => by
    unfold unionTo
    rw [orN_bit, Bool.or_eq_true, union_bit g f k]
    constructor
    · rintro (⟨h, h1, h2⟩ | h)
      · exact ⟨h, by omega, h2⟩
      · exact ⟨k, by omega, h⟩
    · rintro ⟨h, h1, h2⟩
      by_cases q : h < k
      · exact .inl ⟨h, q, h2⟩
      · obtain rfl : h = k := by omega
        exact .inr h2
end Go.Proofs.YtnhifinfjfpoiaaGreat

namespace Go.Proofs.YtnhifinfjfpoiaaGreat
open Go.RowKit
set_option linter.unusedVariables false
set_option linter.unusedSimpArgs false

def stayL (c : Col) (f : Nat) : List Bool := (List.range c.rooms.length).map (stayB c f)
def stayTo (c : Col) (f k : Nat) : List Bool := (List.range c.rooms.length).map (fun j => if j < k then stayB c f j else comeB c f (c.nights.length - 1) j)
theorem stayL_len (c : Col) (f : Nat) : (stayL c f).length = c.rooms.length := by simp [stayL]
theorem stayTo_len (c : Col) (f k : Nat) : (stayTo c f k).length = c.rooms.length := by simp [stayTo]
theorem stayTo_zero (c : Col) (f : Nat) : stayTo c f 0 = comeC c f (c.nights.length - 1) := by
  unfold stayTo comeC
  exact List.map_congr_left fun j _ => by simp
theorem stayTo_all (c : Col) (f : Nat) : stayTo c f c.rooms.length = stayL c f := by
  unfold stayTo stayL
  exact List.map_congr_left fun j hj => by rw [if_pos (List.mem_range.1 hj)]
theorem stayTo_get {c : Col} {f k i : Nat} (hi : i < (stayTo c f k).length) : (stayTo c f k)[i] = if i < k then stayB c f i else comeB c f (c.nights.length - 1) i := by simp [stayTo]
theorem stayTo_nth {c : Col} {f k i : Nat} (hi : i < c.rooms.length) : nthB (stayTo c f k) i = if i < k then stayB c f i else comeB c f (c.nights.length - 1) i := by
  rw [nthB_eq (by rw [stayTo_len]; exact hi), stayTo_get]
theorem stayTo_set {c : Col} {f k : Nat} (hk : k < c.rooms.length) {x : Bool} (hx : stayB c f k = x) : (stayTo c f k).set k x = stayTo c f (k + 1) := by
  refine List.ext_getElem (by simp [stayTo]) fun i h1 h2 => ?_
  rw [List.getElem_set, stayTo_get h2]
  by_cases e : k = i
  · subst e; simp [hx]
  · rw [if_neg e, stayTo_get]
    by_cases q : i < k
    · rw [if_pos q, if_pos (by omega)]
    · rw [if_neg q, if_neg (by omega)]

set_option maxRecDepth 100000 in
set_option maxHeartbeats 2000000 in
theorem stay_any (c : Col) (r t u n : Value) (f : Nat) (w : World) (hc : ColAt w w.heap.size r t u n c) (ok : OkCol c) (hf : f < c.rooms.length) :
    Calls Tryz.prog 126 #[.agg #[r, t, u, n], .int .i64 f] w fun e w' => ∃ b, e = .returned (.slice (some ⟨b, 0, none⟩) c.rooms.length c.rooms.length) ∧ BoolsAt w' b (stayL c f) ∧ w.heap.size ≤ b ∧ Below w.heap.size w w' := by
  have hBW : Below w.heap.size w (w.alloc (.cells #[r, t, u, n] 32)) := (Below.refl _ w).alloc (Nat.le_refl _) _
  have hcA := hc.on hBW
  have HC := Lib.hid hcA
  have c0 : (w.alloc (.cells #[r, t, u, n] 32)).heap[w.heap.size]? = some (.cells #[r, t, u, n] 32 (0, 0)) := blk _ _ _ _ rfl
  obtain ⟨hr, htr, hu, hn⟩ := hc
  obtain ⟨ar, cr, rfl, _⟩ := hr.open
  obtain ⟨at_, ct, rfl, _⟩ := htr.open
  obtain ⟨au, cu, rfl, _⟩ := hu.open
  obtain ⟨an, cn, rfl, _⟩ := hn.open
  have HB := Lib.hid hBW; have HOK := Lib.hid ok; have HX := Lib.hid c0
  have o2 := ok.houses.2
  have o4 := ok.nights
  clear hr htr hu hn hBW hcA c0 ok
  rcases Nat.eq_zero_or_pos c.nights.length with h0 | h0
  · have hcm := come_any c _ _ _ _ f 0 _ HC.out HOK.out hf (Nat.zero_le _)
    have e : stayL c f = comeC c f 0 := by unfold stayL comeC; exact List.map_congr_left fun j _ => by unfold stayB; rw [if_pos h0]
    rw [e]
    have HCM := Lib.hid hcm
    rw [h0] at HB HCM HC HX ⊢
    clear hcm h0 e o4
    go_enter Tryz.func126, Tryz.ntmps126
    go_wp2_with fail
    refine HCM.out.mono ?_
    rintro e w5 ⟨b, rfl, h1, h2, h3⟩
    have H5 := Lib.hid (And.intro h1 (And.intro h2 h3))
    clear h1 h2 h3
    go_wp2_with fail
    go_ret
    obtain ⟨h1, h2, h3⟩ := H5.out
    exact ⟨b, rfl, h1, by simp at h2; omega, HB.out.trans (h3.mono (by simp))⟩
  · obtain ⟨N, hN⟩ : ∃ N, c.nights.length = N + 1 := ⟨c.nights.length - 1, by omega⟩
    have hcm := come_any c _ _ _ _ f N _ HC.out HOK.out hf (by omega)
    have HN1 := Lib.hid hN
    rw [hN] at HB HC HX hcm o4 ⊢
    have HCM := Lib.hid hcm
    have hz := stayTo_zero c f
    rw [show c.nights.length - 1 = N from by omega] at hz
    have HZ := Lib.hid hz
    clear hcm h0 hN hz
    go_enter Tryz.func126, Tryz.ntmps126
    go_wp2_with fail
    refine HCM.out.mono ?_
    rintro e w5 ⟨b, rfl, h1, h2, h3⟩
    rw [← HZ.out] at h1
    have H5 := Lib.hid (And.intro h1 (And.intro h2 h3))
    have hbs : w.heap.size + 1 ≤ b := by simpa using h2
    clear h1 h2 h3
    go_wp2_with fail
    go_loopw [7] (fun i wr => ∃ k : Nat, k ≤ c.rooms.length ∧ i = .int .i64 k ∧ Hid (BoolsAt wr b (stayTo c f k) ∧ Below (w.heap.size + 1) (w.alloc (.cells #[.slice ar c.rooms.length cr, .slice at_ c.traps.length ct, .slice au c.runs.length cu, .slice an (N + 1) cn] 32)) wr)) (fun i _ => c.rooms.length - (intOf i).toNat)
    case atStart => exact ⟨0, Nat.zero_le _, rfl, H5.out.1, by have := H5.out.2.2; simpa using this⟩
    case round =>
      obtain ⟨k, hk, rfl, HR⟩ := hrel
      by_cases hlt : k < c.rooms.length
      · have hki : (k : Int) < c.rooms.length := by omega
        have c1 := HR.out.1.cell k (by rw [stayTo_len]; exact hlt)
        have f1 := HR.out.1.free k
        rw [stayTo_nth hlt, if_neg (Nat.lt_irrefl k), show c.nights.length - 1 = N from by have := HN1.out; omega] at c1
        have hBr : Below (w.alloc (.cells #[.slice ar c.rooms.length cr, .slice at_ c.traps.length ct, .slice au c.runs.length cu, .slice an (N + 1) cn] 32)).heap.size (w.alloc (.cells #[.slice ar c.rooms.length cr, .slice at_ c.traps.length ct, .slice au c.runs.length cu, .slice an (N + 1) cn] 32)) wr := HR.out.2.mono (by simp)
        obtain ⟨q0, q1, q2, q3⟩ := (And.intro ((cell_of_row _ _ 0 _ _ _ (blk_on HX.out hBr)).trans rfl) (And.intro ((cell_of_row _ _ 1 _ _ _ (blk_on HX.out hBr)).trans rfl) (And.intro ((cell_of_row _ _ 2 _ _ _ (blk_on HX.out hBr)).trans rfl) ((cell_of_row _ _ 3 _ _ _ (blk_on HX.out hBr)).trans rfl))) : _ ∧ _ ∧ _ ∧ _)
        have hlen := HOK.out.row N (by have := HN1.out; omega)
        have htl := HOK.out.traps
        have HF := Lib.hid (rfull_any c _ _ _ _ k N wr (HC.out.on hBr) (by have := HN1.out; omega) (by rw [hlen]; exact hlt) (by omega))
        have hst : stayB c f k = (comeB c f N k && fullB c k N) := by
          unfold stayB; rw [if_neg (by have := HN1.out; omega), show c.nights.length - 1 = N from by have := HN1.out; omega]
        have HST := Lib.hid hst
        have hbl : b < wr.heap.size := (Array.getElem?_eq_some_iff.1 HR.out.1).1
        have HBL := Lib.hid hbl
        clear hlen htl hst hBr hbl
        cases hq1 : comeB c f N k
        · rw [hq1] at c1
          have HX1 : Hid (stayB c f k = false) := by rw [HST.out, hq1]; rfl
          clear hq1 HF
          go_wp2_with fail
          go_roundw
          case rel =>
            refine ⟨k + 1, by omega, by go_num, ?_⟩
            rw [← stayTo_set hlt HX1.out]
            exact ⟨HR.out.1.set k false, HR.out.2.setCell (p := ⟨b, k, none⟩) hbs _⟩
          case measure => simp [intOf]; omega
        · rw [hq1] at c1
          have HQ1 := Lib.hid hq1
          clear hq1
          go_wp2_with (go_at_call 106; refine HF.out.mono ?_; rintro e w6 ⟨rfl, hb6⟩; have n6 : BoolsAt w6 b (stayTo c f k) := (hb6.block _ HBL.out).trans HR.out.1; have c6 := n6.cell k (by rw [stayTo_len]; exact hlt); have f6 := n6.free k; have H6 := Lib.hid (And.intro n6 hb6); clear n6 hb6)
          go_roundw
          case rel =>
            refine ⟨k + 1, by omega, by go_num, ?_⟩
            have hx : stayB c f k = fullB c k N := by rw [HST.out, HQ1.out]; rfl
            rw [← stayTo_set hlt hx]
            exact ⟨H6.out.1.set k _, (HR.out.2.trans (H6.out.2.mono (by have := HBL.out; omega))).setCell (p := ⟨b, k, none⟩) hbs _⟩
          case measure => simp [intOf]; omega
      · obtain rfl : k = c.rooms.length := by omega
        go_wp2_with fail
        go_ret
        exact ⟨b, rfl, by rw [← stayTo_all]; exact HR.out.1, by omega, HB.out.trans (HR.out.2.mono (Nat.le_succ _))⟩
end Go.Proofs.YtnhifinfjfpoiaaGreat

namespace Go.Proofs.YtnhifinfjfpoiaaGreat
open Go.RowKit
set_option linter.unusedVariables false
set_option linter.unusedSimpArgs false

/-- Can a rat have come from house f that is left in one of some houses? -/
def staysTo (c : Col) (inp : List Bool) (f k : Nat) : Bool := anyB (fun h => stayB c f h && nthB inp h) k
def staysB (c : Col) (inp : List Bool) (f : Nat) : Bool := staysTo c inp f c.rooms.length
def staysL (c : Col) (inp : List Bool) : List Bool := (List.range c.rooms.length).map (staysB c inp)
def staysF (c : Col) (inp : List Bool) (f h : Nat) : List Bool := (List.range c.rooms.length).map (fun j => if j < f then staysB c inp j else if j = f then staysTo c inp f h else false)
theorem staysTo_succ (c : Col) (inp : List Bool) (f k : Nat) : staysTo c inp f (k + 1) = (staysTo c inp f k || (stayB c f k && nthB inp k)) := anyB_succ _ _
theorem staysL_len (c : Col) (inp : List Bool) : (staysL c inp).length = c.rooms.length := by simp [staysL]
theorem staysF_len (c : Col) (inp : List Bool) (f h : Nat) : (staysF c inp f h).length = c.rooms.length := by simp [staysF]
theorem staysF_get {c : Col} {inp : List Bool} {f h i : Nat} (hi : i < (staysF c inp f h).length) : (staysF c inp f h)[i] = if i < f then staysB c inp i else if i = f then staysTo c inp f h else false := by simp [staysF]
theorem staysF_nth {c : Col} {inp : List Bool} {f h i : Nat} (hi : i < c.rooms.length) : nthB (staysF c inp f h) i = if i < f then staysB c inp i else if i = f then staysTo c inp f h else false := by
  rw [nthB_eq (by rw [staysF_len]; exact hi), staysF_get]
theorem staysF_zero (c : Col) (inp : List Bool) : List.replicate c.rooms.length false = staysF c inp 0 0 := by
  refine List.ext_getElem (by simp [staysF]) fun i h1 h2 => ?_
  rw [staysF_get h2]
  simp [staysTo, anyB]
theorem staysF_row (c : Col) (inp : List Bool) (f : Nat) : staysF c inp f c.rooms.length = staysF c inp (f + 1) 0 := by
  refine List.ext_getElem (by simp [staysF]) fun i h1 h2 => ?_
  rw [staysF_get h1, staysF_get h2]
  by_cases e : i < f
  · rw [if_pos e, if_pos (by omega)]
  · rw [if_neg e]
    by_cases e2 : i = f
    · rw [if_pos e2, if_pos (by omega), e2]; rfl
    · rw [if_neg e2, if_neg (by omega)]
      by_cases e3 : i = f + 1
      · rw [if_pos e3]; simp [staysTo, anyB]
      · rw [if_neg e3]
theorem staysF_all (c : Col) (inp : List Bool) : staysF c inp c.rooms.length 0 = staysL c inp := by
  unfold staysF staysL
  exact List.map_congr_left fun j hj => by rw [if_pos (List.mem_range.1 hj)]
theorem staysF_set {c : Col} {inp : List Bool} {f h : Nat} (hf : f < c.rooms.length) {x : Bool} (hx : staysTo c inp f (h + 1) = x) : (staysF c inp f h).set f x = staysF c inp f (h + 1) := by
  refine List.ext_getElem (by simp [staysF]) fun i h1 h2 => ?_
  rw [List.getElem_set, staysF_get h2]
  by_cases e : f = i
  · subst e; rw [if_pos rfl, if_neg (Nat.lt_irrefl _), if_pos rfl, hx]
  · rw [if_neg e, staysF_get]
    by_cases q : i < f
    · rw [if_pos q, if_pos q]
    · rw [if_neg q, if_neg q, if_neg (fun x => e x.symm), if_neg (fun x => e x.symm)]

set_option maxRecDepth 100000 in
set_option maxHeartbeats 4000000 in
theorem stays_any (c : Col) (r t u n iv : Value) (inp : List Bool) (w : World) (hc : ColAt w w.heap.size r t u n c) (ok : OkCol c) (hi : IsBools w w.heap.size iv inp) (hil : inp.length = c.rooms.length) :
    Calls Tryz.prog 110 #[.agg #[r, t, u, n], iv] w fun e w' => ∃ b, e = .returned (.slice (some ⟨b, 0, none⟩) c.rooms.length c.rooms.length) ∧ BoolsAt w' b (staysL c inp) ∧ w.heap.size ≤ b ∧ Below w.heap.size w w' := by
  have hBW : Below w.heap.size w (w.alloc (.cells #[r, t, u, n] 32)) := (Below.refl _ w).alloc (Nat.le_refl _) _
  have HC := Lib.hid (hc.on hBW)
  have c0 : (w.alloc (.cells #[r, t, u, n] 32)).heap[w.heap.size]? = some (.cells #[r, t, u, n] 32 (0, 0)) := blk _ _ _ _ rfl
  obtain ⟨hr, htr, hu, hn⟩ := hc
  obtain ⟨ar, cr, rfl, _⟩ := hr.open
  obtain ⟨at_, ct, rfl, _⟩ := htr.open
  obtain ⟨au, cu, rfl, _⟩ := hu.open
  obtain ⟨an, cn, rfl, _⟩ := hn.open
  have o2 := ok.houses.2
  have hmk := fun W => make_bools c.rooms.length (by omega) W
  obtain ⟨ai, ci, rfl, _, _, hi3⟩ := hi.open
  rw [hil] at hi3 ⊢
  have HB := Lib.hid hBW; have HOK := Lib.hid ok; have HX := Lib.hid c0; have HI := Lib.hid hi3
  have h0 : BoolsAt ((w.alloc (.cells #[.slice ar c.rooms.length cr, .slice at_ c.traps.length ct, .slice au c.runs.length cu, .slice an c.nights.length cn] 32)).alloc (.cells (bw (List.replicate c.rooms.length false)) 4)) (w.heap.size + 1) (staysF c inp 0 0) := by rw [← staysF_zero]; exact blk _ _ _ _ (by simp)
  have hb0 : Below (w.heap.size + 1) (w.alloc (.cells #[.slice ar c.rooms.length cr, .slice at_ c.traps.length ct, .slice au c.runs.length cu, .slice an c.nights.length cn] 32)) ((w.alloc (.cells #[.slice ar c.rooms.length cr, .slice at_ c.traps.length ct, .slice au c.runs.length cu, .slice an c.nights.length cn] 32)).alloc (.cells (bw (List.replicate c.rooms.length false)) 4)) := (Below.refl _ _).alloc (by simp) _
  have H0 := Lib.hid (And.intro h0 hb0)
  clear hr htr hu hn hBW c0 ok hi hi3 h0 hb0 hil
  go_enter Tryz.func110, Tryz.ntmps110
  go_wp2_with fail
  obtain ⟨W1, hW1⟩ : ∃ W1, (w.alloc (.cells #[.slice ar c.rooms.length cr, .slice at_ c.traps.length ct, .slice au c.runs.length cu, .slice an c.nights.length cn] 32)) = W1 := ⟨_, rfl⟩
  have hz : w.heap.size + 1 = W1.heap.size := by rw [← hW1]; simp
  have HZ := Lib.hid hz
  rw [hW1] at H0 HC HB HX ⊢
  clear hW1 hz
  go_loopw [6] (fun i wr => ∃ f : Nat, f ≤ c.rooms.length ∧ i = .int .i64 f ∧ Hid (BoolsAt wr (w.heap.size + 1) (staysF c inp f 0) ∧ Below (w.heap.size + 1) W1 wr)) (fun i _ => c.rooms.length - (intOf i).toNat)
  case atStart => exact ⟨0, Nat.zero_le _, rfl, H0.out⟩
  case round =>
    obtain ⟨f, hf, rfl, HR⟩ := hrel
    by_cases hlt : f < c.rooms.length
    · have hfi : (f : Int) < c.rooms.length := by omega
      have hBr : Below W1.heap.size W1 wr := HR.out.2.mono (by rw [HZ.out]; exact Nat.le_refl _)
      obtain ⟨q0, q1, q2, q3⟩ := (And.intro ((cell_of_row _ _ 0 _ _ _ (blk_on HX.out hBr)).trans rfl) (And.intro ((cell_of_row _ _ 1 _ _ _ (blk_on HX.out hBr)).trans rfl) (And.intro ((cell_of_row _ _ 2 _ _ _ (blk_on HX.out hBr)).trans rfl) ((cell_of_row _ _ 3 _ _ _ (blk_on HX.out hBr)).trans rfl))) : _ ∧ _ ∧ _ ∧ _)
      have HST := Lib.hid (stay_any c _ _ _ _ f wr (HC.out.on hBr) HOK.out hlt)
      have hbl : w.heap.size + 1 < wr.heap.size := (Array.getElem?_eq_some_iff.1 HR.out.1).1
      have HBR := Lib.hid (And.intro hBr hbl)
      clear hBr hbl
      go_wp2_with (go_at_call 126; refine HST.out.mono ?_; rintro e w5 ⟨b5, rfl, h1, h2, h3⟩; have H5 := Lib.hid (And.intro h1 (And.intro h2 h3)); clear h1 h2 h3)
      have hbne : w.heap.size + 1 < b5 := by have := H5.out.2.1; have := HBR.out.2; omega
      obtain ⟨wo, rfl⟩ : ∃ wo : World, wo = wr := ⟨_, rfl⟩
      clear q0 q1 q2 q3
      go_loopw [8] (fun i wq => ∃ k : Nat, k ≤ c.rooms.length ∧ i = .int .i64 k ∧ Hid (BoolsAt wq (w.heap.size + 1) (staysF c inp f k) ∧ BoolsAt wq b5 (stayL c f) ∧ Below (w.heap.size + 1) W1 wq)) (fun i _ => c.rooms.length - (intOf i).toNat)
      case atStart => exact ⟨0, Nat.zero_le _, rfl, (H5.out.2.2.block _ HBR.out.2).trans HR.out.1, H5.out.1, HR.out.2.trans (H5.out.2.2.mono (Nat.le_of_lt HBR.out.2))⟩
      case round =>
        obtain ⟨k, hk, rfl, HQ⟩ := hrel
        by_cases hkl : k < c.rooms.length
        · have hki : (k : Int) < c.rooms.length := by omega
          have d1 := HQ.out.1.cell f (by rw [staysF_len]; exact hlt)
          have f1 := HQ.out.1.free f
          rw [staysF_nth hlt, if_neg (Nat.lt_irrefl f), if_pos rfl] at d1
          have d2 := HQ.out.2.1.cell k (by rw [stayL_len]; exact hkl)
          rw [show nthB (stayL c f) k = stayB c f k from by simp [nthB, stayL, hkl]] at d2
          obtain ⟨bi, oi, rfl, hbi, hci⟩ := HI.out k hkl
          have d3 : wr.cell? ⟨bi, oi + k, none⟩ = some (.bool (nthB inp k)) := ((HQ.out.2.2.cell (p := ⟨bi, oi + k, none⟩) (by simp; omega)).trans (HB.out.cell (p := ⟨bi, oi + k, none⟩) hbi)).trans hci
          have HSU := Lib.hid (staysTo_succ c inp f k)
          clear hci
          cases hx : staysTo c inp f k
          · rw [hx] at d1
            have HXX := Lib.hid hx
            clear hx
            cases hy : stayB c f k
            · rw [hy] at d2
              have HV : Hid (staysTo c inp f (k + 1) = false) := by rw [HSU.out, HXX.out, hy]; rfl
              clear hy
              go_wp2_with fail
              go_roundw
              case rel =>
                refine ⟨k + 1, by omega, by go_num, ?_⟩
                rw [← staysF_set hlt HV.out]
                exact ⟨HQ.out.1.set f _, (Below.heap_setCell _ _ _ _ (show b5 ≠ w.heap.size + 1 from by omega)).trans HQ.out.2.1, HQ.out.2.2.setCell (p := ⟨w.heap.size + 1, f, none⟩) (Nat.le_refl _) _⟩
              case measure => simp [intOf]; omega
            · rw [hy] at d2
              have HV := Lib.hid (show staysTo c inp f (k + 1) = nthB inp k by rw [HSU.out, HXX.out, hy]; simp)
              clear hy
              go_wp2_with fail
              go_roundw
              case rel =>
                refine ⟨k + 1, by omega, by go_num, ?_⟩
                rw [← staysF_set hlt HV.out]
                exact ⟨HQ.out.1.set f _, (Below.heap_setCell _ _ _ _ (show b5 ≠ w.heap.size + 1 from by omega)).trans HQ.out.2.1, HQ.out.2.2.setCell (p := ⟨w.heap.size + 1, f, none⟩) (Nat.le_refl _) _⟩
              case measure => simp [intOf]; omega
          · rw [hx] at d1
            have HV : Hid (staysTo c inp f (k + 1) = true) := by rw [HSU.out, hx]; rfl
            clear hx
            go_wp2_with fail
            go_roundw
            case rel =>
              refine ⟨k + 1, by omega, by go_num, ?_⟩
              rw [← staysF_set hlt HV.out]
              exact ⟨HQ.out.1.set f _, (Below.heap_setCell _ _ _ _ (show b5 ≠ w.heap.size + 1 from by omega)).trans HQ.out.2.1, HQ.out.2.2.setCell (p := ⟨w.heap.size + 1, f, none⟩) (Nat.le_refl _) _⟩
            case measure => simp [intOf]; omega
        · obtain rfl : k = c.rooms.length := by omega
          go_wp2_with fail
          go_roundw
          case rel => exact ⟨f + 1, by omega, by go_num, by rw [← staysF_row]; exact ⟨HQ.out.1, HQ.out.2.2⟩⟩
          case measure => simp [intOf]; omega
    · obtain rfl : f = c.rooms.length := by omega
      go_wp2_with fail
      go_ret
      exact ⟨w.heap.size + 1, rfl, by rw [← staysF_all]; exact HR.out.1, Nat.le_succ _, HB.out.trans (HR.out.2.mono (Nat.le_succ _))⟩
end Go.Proofs.YtnhifinfjfpoiaaGreat

namespace Go.Proofs.YtnhifinfjfpoiaaGreat
open Go.RowKit
set_option linter.unusedVariables false
set_option linter.unusedSimpArgs false

def nthG (gl : List (Int × List Bool)) (i : Nat) : Int × List Bool := gl.getD i (0, [])
theorem nthG_eq {gl : List (Int × List Bool)} {i : Nat} (h : i < gl.length) : nthG gl i = gl[i] := by simp [nthG, h]
def IsGroups (w : World) (B : Nat) (v : Value) (gl : List (Int × List Bool)) : Prop :=
  ∃ f : Nat → Value, SlAt w B v gl.length 2 (fun j => if j % 2 = 0 then .int .i64 (nthG gl (j / 2)).1 else f (j / 2)) ∧ ∀ j, j < gl.length → IsBools w B (f j) (nthG gl j).2
theorem IsGroups.on {w w' : World} {v : Value} {gl : List (Int × List Bool)} (h : IsGroups w w.heap.size v gl) (hb : Below w.heap.size w w') : IsGroups w' w'.heap.size v gl := by
  obtain ⟨f, h1, h2⟩ := h
  exact ⟨f, (h1.below hb (Nat.le_refl _)).mono hb.size, fun j hj => (h2 j hj).on hb⟩
theorem IsGroups.open {w : World} {B : Nat} {v : Value} {gl : List (Int × List Bool)} (h : IsGroups w B v gl) :
    ∃ (a : Option Addr) (cap : Nat), v = .slice a gl.length cap ∧ gl.length ≤ cap ∧ gl.length ≤ 140737488355328 ∧ (∀ i, i < gl.length → ∃ b off u, a = some ⟨b, off, none⟩ ∧ b < B ∧ w.cell? ⟨b, off + i * 2, none⟩ = some (.int .i64 (nthG gl i).1) ∧ w.cell? ⟨b, off + i * 2 + 1, none⟩ = some u ∧ IsBools w B u (nthG gl i).2) := by
  obtain ⟨f, ⟨a, cap, hv, h1, h2, h3⟩, hr⟩ := h
  refine ⟨a, cap, hv, h1, h2, fun i hi => ?_⟩
  rcases h3 with h3 | ⟨b, off, ha, hlt, hc⟩
  · omega
  · refine ⟨b, off, f i, ha, hlt, ?_, ?_, hr i hi⟩
    · rw [hc (i * 2) (by omega)]; simp
    · rw [Nat.add_assoc, hc (i * 2 + 1) (by omega)]
      have e1 : (i * 2 + 1) % 2 = 1 := by omega
      have e2 : (i * 2 + 1) / 2 = i := by omega
      simp [e1, e2]

def roomsUp (rl : List Int) (s k : Nat) : Int := sumN (fun h => if s.testBit h = true then nth rl h else 0) k
def restUp (gl : List (Int × List Bool)) (s k : Nat) : Int := sumN (fun i => if withinB (nthG gl i).2 s = true then 0 else (nthG gl i).1) k
def capG (rl : List Int) (gl : List (Int × List Bool)) (s : Nat) : Int := roomsUp rl s rl.length + restUp gl s gl.length
def minG (rl : List Int) (gl : List (Int × List Bool)) : Nat → Int
  | 0 => 1000000
  | k + 1 => if capG rl gl k < minG rl gl k then capG rl gl k else minG rl gl k
/-- Lists of which a room can be told. -/
structure RoomOk (rl : List Int) (gl : List (Int × List Bool)) : Prop where
  rl6 : rl.length ≤ 6
  rooms : ∀ h, h < rl.length → 0 ≤ nth rl h ∧ nth rl h ≤ 60
  gl40 : gl.length ≤ 40
  rats : ∀ i, i < gl.length → 0 ≤ (nthG gl i).1 ∧ (nthG gl i).1 ≤ 1000
  from6 : ∀ i, i < gl.length → (nthG gl i).2.length ≤ 6
theorem RoomOk.roomsB {rl : List Int} {gl : List (Int × List Bool)} (ok : RoomOk rl gl) (s : Nat) {k : Nat} (hk : k ≤ rl.length) : 0 ≤ roomsUp rl s k ∧ roomsUp rl s k ≤ 60 * k := by
  constructor
  · exact sumN_nonneg fun i hi => by have := ok.rooms i (by omega); split <;> omega
  · exact sumN_bound fun i hi => by have := ok.rooms i (by omega); split <;> omega
theorem RoomOk.restB {rl : List Int} {gl : List (Int × List Bool)} (ok : RoomOk rl gl) (s : Nat) {k : Nat} (hk : k ≤ gl.length) : 0 ≤ restUp gl s k ∧ restUp gl s k ≤ 1000 * k := by
  constructor
  · exact sumN_nonneg fun i hi => by have := ok.rats i (by omega); split <;> omega
  · exact sumN_bound fun i hi => by have := ok.rats i (by omega); split <;> omega

set_option maxRecDepth 100000 in
set_option maxHeartbeats 4000000 in
theorem room_any (c : Col) (r t u n rv gv : Value) (rl : List Int) (gl : List (Int × List Bool)) (w : World) (hc : ColAt w w.heap.size r t u n c) (hr6 : c.rooms.length ≤ 6) (hrl : IsInts w w.heap.size rv rl) (hgl : IsGroups w w.heap.size gv gl) (ok : RoomOk rl gl) :
    Calls Tryz.prog 114 #[.agg #[r, t, u, n], rv, gv] w fun e w' => e = .returned (.int .i64 (minG rl gl (pow2 c.rooms.length))) ∧ Below w.heap.size w w' := by
  have hBW : Below w.heap.size w (w.alloc (.cells #[r, t, u, n] 32)) := (Below.refl _ w).alloc (Nat.le_refl _) _
  have HC := Lib.hid (And.intro (hc.on hBW) (And.intro (hrl.below hBW (Nat.le_refl _)) (hgl.on hBW)))
  have c0 : (w.alloc (.cells #[r, t, u, n] 32)).heap[w.heap.size]? = some (.cells #[r, t, u, n] 32 (0, 0)) := blk _ _ _ _ rfl
  obtain ⟨hr, htr, hu, hn⟩ := hc
  obtain ⟨ar, cr, rfl, _⟩ := hr.open
  obtain ⟨at_, ct, rfl, _⟩ := htr.open
  obtain ⟨au, cu, rfl, _⟩ := hu.open
  obtain ⟨an, cn, rfl, _⟩ := hn.open
  obtain ⟨al, cl, rfl, _, l2, _⟩ := hrl.open
  obtain ⟨ag, cg, rfl, _, g2, _⟩ := hgl.open
  have HB := Lib.hid hBW; have HOK := Lib.hid ok; have HX := Lib.hid c0
  have rl6 := ok.rl6
  have gl40 := ok.gl40
  clear hr htr hu hn hBW c0 ok hrl hgl
  go_enter Tryz.func114, Tryz.ntmps114
  go_wp2_with fail
  obtain ⟨W1, hW1⟩ : ∃ W1, (w.alloc (.cells #[.slice ar c.rooms.length cr, .slice at_ c.traps.length ct, .slice au c.runs.length cu, .slice an c.nights.length cn] 32)) = W1 := ⟨_, rfl⟩
  rw [hW1] at HC HB HX ⊢
  clear hW1
  have hp64 := pow2_le hr6
  go_loopw [7, 8] (fun v i wr => ∃ k : Nat, k ≤ pow2 c.rooms.length ∧ i = .int .i64 k ∧ v = .int .i64 (minG rl gl k) ∧ Hid (Below W1.heap.size W1 wr)) (fun _ i _ => pow2 c.rooms.length - (intOf i).toNat)
  case atStart => exact ⟨0, Nat.zero_le _, rfl, rfl, Below.refl _ _⟩
  case round =>
    obtain ⟨k, hk, rfl, rfl, HR⟩ := hrel
    obtain ⟨q0, q1, q2, q3⟩ := (And.intro ((cell_of_row _ _ 0 _ _ _ (blk_on HX.out HR.out)).trans rfl) (And.intro ((cell_of_row _ _ 1 _ _ _ (blk_on HX.out HR.out)).trans rfl) (And.intro ((cell_of_row _ _ 2 _ _ _ (blk_on HX.out HR.out)).trans rfl) ((cell_of_row _ _ 3 _ _ _ (blk_on HX.out HR.out)).trans rfl))) : _ ∧ _ ∧ _ ∧ _)
    have HSE := Lib.hid (sets_any c _ _ _ _ wr (HC.out.1.on HR.out) hr6)
    by_cases hlt : k < pow2 c.rooms.length
    · have hki : (k : Int) < pow2 c.rooms.length := by omega
      have hs : minG rl gl (k + 1) = if capG rl gl k < minG rl gl k then capG rl gl k else minG rl gl k := rfl
      have HS := Lib.hid hs
      clear hs
      go_wp2_with (go_at_call 127; refine HSE.out.mono ?_; rintro e w5 ⟨rfl, hb5⟩; have H5 := Lib.hid (HR.out.trans (hb5.mono HR.out.size)); clear hb5)
      clear q0 q1 q2 q3
      obtain ⟨al', cl', e1, _, _, l3⟩ := (HC.out.2.1.below H5.out (by have := HB.out.size; omega)).open
      cases e1
      obtain ⟨ag', cg', e2, _, _, g3⟩ := (HC.out.2.2.on H5.out).open
      cases e2
      have HL3 := Lib.hid l3; have HG3 := Lib.hid g3
      clear l3 g3
      go_loopw [9, 10] (fun v i wq => ∃ j : Nat, j ≤ rl.length ∧ i = .int .i64 j ∧ v = .int .i64 (roomsUp rl k j) ∧ w5 = wq) (fun _ i _ => rl.length - (intOf i).toNat)
      case atStart => exact ⟨0, Nat.zero_le _, rfl, rfl, rfl⟩
      case round =>
        obtain ⟨j, hj, rfl, rfl, rfl⟩ := hrel
        have hrb := HOK.out.roomsB k hj
        by_cases hjl : j < rl.length
        · have hji : (j : Int) < rl.length := by omega
          obtain ⟨bl, ol, rfl, _, m1⟩ := HL3.out j hjl
          have hbt := bit_any k j w5 (by omega) (by omega)
          have hrj := HOK.out.rooms j hjl
          have hs2 : roomsUp rl k (j + 1) = roomsUp rl k j + (if k.testBit j = true then nth rl j else 0) := rfl
          have HS2 := Lib.hid hs2
          clear hs2
          cases hq : k.testBit j
          · rw [hq] at hbt
            have HBT := Lib.hid hbt
            have HQ := Lib.hid hq
            clear hq hbt
            go_wp2_with (go_at_call 128; refine HBT.out.mono ?_; rintro e w6 ⟨rfl, rfl⟩)
            go_roundw
            case rel => exact ⟨j + 1, by omega, by go_num, by rw [HS2.out, HQ.out]; simp, by simp⟩
            case measure => simp [intOf]; omega
          · rw [hq] at hbt
            have HBT := Lib.hid hbt
            have HQ := Lib.hid hq
            clear hq hbt
            go_wp2_with (go_at_call 128; refine HBT.out.mono ?_; rintro e w6 ⟨rfl, rfl⟩)
            go_roundw
            case rel => exact ⟨j + 1, by omega, by go_num, by rw [HS2.out, HQ.out]; simp, by simp⟩
            case measure => simp [intOf]; omega
        · obtain rfl : j = rl.length := by omega
          go_wp2_with fail
          go_loopw [9, 11] (fun v i wq => ∃ j : Nat, j ≤ gl.length ∧ i = .int .i64 j ∧ v = .int .i64 (roomsUp rl k rl.length + restUp gl k j) ∧ w5 = wq) (fun _ i _ => gl.length - (intOf i).toNat)
          case atStart => exact ⟨0, Nat.zero_le _, rfl, by simp [restUp, sumN], rfl⟩
          case round =>
            obtain ⟨j, hj, rfl, rfl, rfl⟩ := hrel
            have hgb := HOK.out.restB k hj
            by_cases hjl : j < gl.length
            · have hji : (j : Int) < gl.length := by omega
              obtain ⟨bg, og, u, rfl, _, m1, m2, m3⟩ := HG3.out j hjl
              have hwi := within_any _ k _ w5 m3 (by omega) (HOK.out.from6 j hjl)
              have hrj := HOK.out.rats j hjl
              have hs2 : restUp gl k (j + 1) = restUp gl k j + (if withinB (nthG gl j).2 k = true then 0 else (nthG gl j).1) := rfl
              have HS2 := Lib.hid hs2
              obtain ⟨_, _, rfl, _⟩ := m3.open
              clear hs2 m3
              cases hq : withinB (nthG gl j).2 k
              · rw [hq] at hwi
                have HWI := Lib.hid hwi
                have HQ := Lib.hid hq
                clear hq hwi
                go_wp2_with (go_at_call 129; refine HWI.out.mono ?_; rintro e w6 ⟨rfl, rfl⟩)
                go_roundw
                case rel => exact ⟨j + 1, by omega, by go_num, by rw [HS2.out, HQ.out]; simp [Int.add_assoc], by simp⟩
                case measure => simp [intOf]; omega
              · rw [hq] at hwi
                have HWI := Lib.hid hwi
                have HQ := Lib.hid hq
                clear hq hwi
                go_wp2_with (go_at_call 129; refine HWI.out.mono ?_; rintro e w6 ⟨rfl, rfl⟩)
                go_roundw
                case rel => exact ⟨j + 1, by omega, by go_num, by rw [HS2.out, HQ.out]; simp, by simp⟩
                case measure => simp [intOf]; omega
            · obtain rfl : j = gl.length := by omega
              have hcap : capG rl gl k = roomsUp rl k rl.length + restUp gl k gl.length := rfl
              have HCAP := Lib.hid hcap
              by_cases hm : roomsUp rl k rl.length + restUp gl k gl.length < minG rl gl k
              · have HM := Lib.hid hm
                clear hcap
                go_wp2_with fail
                go_roundw
                case rel => exact ⟨k + 1, by omega, by go_num, by rw [HS.out, HCAP.out, if_pos HM.out], H5.out⟩
                case measure => simp [intOf]; omega
              · have HM := Lib.hid hm
                have hm2 : minG rl gl k ≤ roomsUp rl k rl.length + restUp gl k gl.length := by omega
                clear hcap
                go_wp2_with fail
                go_roundw
                case rel => exact ⟨k + 1, by omega, by go_num, by rw [HS.out, HCAP.out, if_neg HM.out], H5.out⟩
                case measure => simp [intOf]; omega
    · obtain rfl : k = pow2 c.rooms.length := by omega
      go_wp2_with (go_at_call 127; refine HSE.out.mono ?_; rintro e w5 ⟨rfl, hb5⟩; have H5 := Lib.hid (HR.out.trans (hb5.mono HR.out.size)); clear hb5)
      go_ret
      exact ⟨rfl, HB.out.trans (H5.out.mono HB.out.size)⟩
end Go.Proofs.YtnhifinfjfpoiaaGreat

namespace Go.Proofs.YtnhifinfjfpoiaaGreat
open Go.RowKit
set_option linter.unusedVariables false
set_option linter.unusedSimpArgs false

def fromL (c : Col) (n h : Nat) : List Bool := (List.range c.rooms.length).map (fun f => comeB c f n h)
def groupRow (c : Col) (n j : Nat) : List (Int × List Bool) := (List.range j).map fun h => (nth (nthR c.nights n) h, fromL c n h)
def groupsUp (c : Col) (n : Nat) : List (Int × List Bool) := (List.range n).flatMap fun i => groupRow c i c.rooms.length
def groupsC (c : Col) : List (Int × List Bool) := groupsUp c c.nights.length
theorem groupRow_succ (c : Col) (n j : Nat) : groupRow c n (j + 1) = groupRow c n j ++ [(nth (nthR c.nights n) j, fromL c n j)] := by simp [groupRow, List.range_succ]
theorem groupRow_len (c : Col) (n j : Nat) : (groupRow c n j).length = j := by simp [groupRow]
theorem groupsUp_succ (c : Col) (n : Nat) : groupsUp c (n + 1) = groupsUp c n ++ groupRow c n c.rooms.length := by simp [groupsUp, List.range_succ]
theorem groupsUp_len (c : Col) : ∀ n, (groupsUp c n).length = n * c.rooms.length
  | 0 => by simp [groupsUp]
  | n + 1 => by rw [groupsUp_succ, List.length_append, groupRow_len, groupsUp_len c n, Nat.succ_mul]
theorem fromL_len (c : Col) (n h : Nat) : (fromL c n h).length = c.rooms.length := by simp [fromL]
theorem fromL_take {c : Col} {n h k : Nat} (hk : k < c.rooms.length) : ((fromL c n h).take (k + 1)).map Value.bool = ((fromL c n h).take k).map Value.bool ++ [.bool (comeB c k n h)] := by
  rw [List.take_succ_eq_append_getElem (by rw [fromL_len]; exact hk), List.map_append]
  simp [fromL]
/-- The cells of groups whose lists are values us. -/
def zipTo (gl : List (Int × List Bool)) (us : List Value) : Nat → List Value
  | 0 => []
  | k + 1 => zipTo gl us k ++ [.int .i64 (nthG gl k).1, us.getD k (.slice none 0 0)]
def zipV (gl : List (Int × List Bool)) (us : List Value) : List Value := zipTo gl us gl.length
theorem zipTo_len (gl : List (Int × List Bool)) (us : List Value) : ∀ k, (zipTo gl us k).length = k * 2
  | 0 => rfl
  | k + 1 => by unfold zipTo; rw [List.length_append, zipTo_len gl us k]; simp; omega
theorem zipTo_app (gl : List (Int × List Bool)) (us : List Value) (x : Int × List Bool) (u : Value) (h : us.length = gl.length) : ∀ k, k ≤ gl.length → zipTo (gl ++ [x]) (us ++ [u]) k = zipTo gl us k
  | 0, _ => rfl
  | k + 1, hk => by
    unfold zipTo
    rw [zipTo_app gl us x u h k (by omega)]
    have e1 : nthG (gl ++ [x]) k = nthG gl k := by unfold nthG; rw [List.getD_eq_getElem?_getD, List.getD_eq_getElem?_getD, List.getElem?_append_left (by omega)]
    have e2 : (us ++ [u]).getD k (.slice none 0 0) = us.getD k (.slice none 0 0) := by rw [List.getD_eq_getElem?_getD, List.getD_eq_getElem?_getD, List.getElem?_append_left (by omega)]
    rw [e1, e2]
theorem zipV_snoc (gl : List (Int × List Bool)) (us : List Value) (x : Int × List Bool) (u : Value) (h : us.length = gl.length) : zipV (gl ++ [x]) (us ++ [u]) = zipV gl us ++ [.int .i64 x.1, u] := by
  unfold zipV
  rw [List.length_append, List.length_singleton]
  have e0 : zipTo (gl ++ [x]) (us ++ [u]) (gl.length + 1) = zipTo (gl ++ [x]) (us ++ [u]) gl.length ++ [.int .i64 (nthG (gl ++ [x]) gl.length).1, (us ++ [u]).getD gl.length (.slice none 0 0)] := rfl
  have e1 : nthG (gl ++ [x]) gl.length = x := by unfold nthG; simp
  have e2 : (us ++ [u]).getD gl.length (.slice none 0 0) = u := by rw [← h, List.getD_eq_getElem?_getD, List.getElem?_append_right (Nat.le_refl _)]; simp
  rw [e0, e1, e2, zipTo_app gl us x u h _ (Nat.le_refl _)]
/-- A list of groups in memory of its own. -/
def OwnG (w : World) (B : Nat) (v : Value) (gl : List (Int × List Bool)) : Prop :=
  ∃ us : List Value, us.length = gl.length ∧ w.ownsRow B 167 2 v gl.length (zipV gl us) ∧ ∀ j, j < gl.length → w.ownsRow B 4 1 (us.getD j (.slice none 0 0)) (nthG gl j).2.length ((nthG gl j).2.map Value.bool)
theorem OwnG.below {w w' : World} {B : Nat} {v : Value} {gl : List (Int × List Bool)} (h : OwnG w B v gl) (hb : Below w.heap.size w w') : OwnG w' B v gl :=
  let ⟨us, h0, h1, h2⟩ := h; ⟨us, h0, owns_below h1 hb, fun j hj => owns_below (h2 j hj) hb⟩
theorem four_of {W : World} {p t : Nat} {a b c d : Value} (h : W.heap[p]? = some (.cells #[a, b, c, d] t (0, 0))) : W.cell? ⟨p, 0, none⟩ = some a ∧ W.cell? ⟨p, 1, none⟩ = some b ∧ W.cell? ⟨p, 2, none⟩ = some c ∧ W.cell? ⟨p, 3, none⟩ = some d :=
  ⟨(cell_of_row _ _ 0 _ _ _ h).trans rfl, (cell_of_row _ _ 1 _ _ _ h).trans rfl, (cell_of_row _ _ 2 _ _ _ h).trans rfl, (cell_of_row _ _ 3 _ _ _ h).trans rfl⟩
theorem infoGroup : (Tryz.prog.info? 167).map (fun i => (i.zero, i.size, i.bytes)) = some (some (.agg #[.int .i64 0, .slice none 0 0]), 2, 32) := by kernel_rfl

theorem OwnG.base {w : World} {B B' : Nat} {v : Value} {gl : List (Int × List Bool)} (h : OwnG w B v gl) (hb : B' ≤ B) : OwnG w B' v gl :=
  let ⟨us, h0, h1, h2⟩ := h; ⟨us, h0, owns_base h1 hb, fun j hj => owns_base (h2 j hj) hb⟩
theorem ownG_snoc {W w1 : World} {B : Nat} {v' sl u : Value} {gl : List (Int × List Bool)} {us : List Value} {x : Int} {L : List Bool} {n : Nat} (hn : gl.length = n) (h0 : us.length = gl.length)
    (h1 : W.ownsRow B 167 2 sl n (zipV gl us)) (h2 : ∀ j, j < gl.length → W.ownsRow B 4 1 (us.getD j (.slice none 0 0)) (nthG gl j).2.length ((nthG gl j).2.map Value.bool))
    (hu : W.ownsRow B 4 1 u L.length (L.map Value.bool)) (hown : w1.ownsRow B 167 2 v' (n + 1) (zipV gl us ++ [.int .i64 x, u])) (hg : W.grownBy w1 sl.ownBlock) : OwnG w1 B v' (gl ++ [(x, L)]) := by
  subst hn
  refine ⟨us ++ [u], by simp [h0], ?_, fun j hj => ?_⟩
  · rw [List.length_append, List.length_singleton, zipV_snoc gl us (x, L) u h0]; exact hown
  · by_cases hl : j < gl.length
    · have e1 : nthG (gl ++ [(x, L)]) j = nthG gl j := by unfold nthG; rw [List.getD_eq_getElem?_getD, List.getD_eq_getElem?_getD, List.getElem?_append_left (by omega)]
      have e2 : (us ++ [u]).getD j (.slice none 0 0) = us.getD j (.slice none 0 0) := by rw [List.getD_eq_getElem?_getD, List.getD_eq_getElem?_getD, List.getElem?_append_left (by omega)]
      rw [e1, e2]
      exact owns_grown (h2 j hl) hg (fun g cs hc => not_own h1 hc (by decide))
    · obtain rfl : j = gl.length := by simp at hj; omega
      have e1 : nthG (gl ++ [(x, L)]) gl.length = (x, L) := by unfold nthG; simp
      have e2 : (us ++ [u]).getD gl.length (.slice none 0 0) = u := by rw [← h0, List.getD_eq_getElem?_getD, List.getElem?_append_right (Nat.le_refl _)]; simp
      rw [e1, e2]
      exact owns_grown hu hg (fun g cs hc => not_own h1 hc (by decide))

theorem group_leaf {wp wr W w6 : World} {k g6 cap6 : Nat} {aw : Option Addr} {cw : Nat} {x : Value} {L L' : List Value}
    (hbp : Below wp.heap.size wp wr) (hlt : wp.heap.size < wr.heap.size) (hbW : Below wr.heap.size wr W) (h2 : W.ownsRow wp.heap.size 4 1 (.slice aw k cw) k L) (n7 : w6.heap[wp.heap.size]? = some (.cells #[x, .slice aw k cw] 167 (0, 0)))
    (hown : w6.ownsRow wp.heap.size 4 1 (.slice (some ⟨g6, 0, none⟩) (k + 1) cap6) (k + 1) L') (hgrow : W.grownBy w6 (Value.slice aw k cw).ownBlock) :
    (w6.setCell ⟨wp.heap.size, 1, none⟩ (.slice (some ⟨g6, 0, none⟩) (k + 1) cap6)).heap[wp.heap.size]? = some (.cells #[x, .slice (some ⟨g6, 0, none⟩) (k + 1) cap6] 167 (0, 0)) ∧
    (w6.setCell ⟨wp.heap.size, 1, none⟩ (.slice (some ⟨g6, 0, none⟩) (k + 1) cap6)).ownsRow wp.heap.size 4 1 (.slice (some ⟨g6, 0, none⟩) (k + 1) cap6) (k + 1) L' ∧
    Below wp.heap.size wp (w6.setCell ⟨wp.heap.size, 1, none⟩ (.slice (some ⟨g6, 0, none⟩) (k + 1) cap6)) := by
  refine ⟨(heap_setCell_same _ _ _ _ _ _ n7).trans rfl, owns_set_ty hown n7 (by decide), ?_⟩
  exact (below_grown (hbp.trans (hbW.mono hbp.size)) hgrow (fun r hr => (h2.lt r hr).1) (Nat.le_trans hbp.size hbW.size)).setCell (Nat.le_refl _) _

set_option maxRecDepth 100000 in
set_option maxHeartbeats 4000000 in
theorem groups_any (c : Col) (r t u n : Value) (w : World) (hc : ColAt w w.heap.size r t u n c) (ok : OkCol c) :
    Calls Tryz.prog 113 #[.agg #[r, t, u, n]] w fun e w' => ∃ v, e = .returned v ∧ OwnG w' w.heap.size v (groupsC c) ∧ Below w.heap.size w w' := by
  have hBW : Below w.heap.size w (w.alloc (.cells #[r, t, u, n] 32)) := (Below.refl _ w).alloc (Nat.le_refl _) _
  have HC := Lib.hid (hc.on hBW)
  have c0 : (w.alloc (.cells #[r, t, u, n] 32)).heap[w.heap.size]? = some (.cells #[r, t, u, n] 32 (0, 0)) := blk _ _ _ _ rfl
  obtain ⟨hr, htr, hu, hn⟩ := hc
  obtain ⟨ar, cr, rfl, _⟩ := hr.open
  obtain ⟨at_, ct, rfl, _⟩ := htr.open
  obtain ⟨au, cu, rfl, _⟩ := hu.open
  obtain ⟨an, cn, rfl, _, _, hn3⟩ := hn.open
  have o2 := ok.houses.2
  have o4 := ok.nights
  have HB := Lib.hid hBW; have HOK := Lib.hid ok; have HX := Lib.hid c0; have HN := Lib.hid hn3
  obtain ⟨i0, hi, hz0, hz1, hz2⟩ := info_parts infoGroup
  obtain ⟨i1, hj, hy0, hy1, hy2⟩ := info_parts infoBool
  clear hr htr hu hn hBW c0 ok hn3
  go_enter Tryz.func113, Tryz.ntmps113
  go_wp2_with fail
  obtain ⟨W1, hW1⟩ : ∃ W1, (w.alloc (.cells #[.slice ar c.rooms.length cr, .slice at_ c.traps.length ct, .slice au c.runs.length cu, .slice an c.nights.length cn] 32)) = W1 := ⟨_, rfl⟩
  have hbx : w.heap.size < W1.heap.size := by rw [← hW1]; simp
  rw [hW1] at HC HB HX ⊢
  have HBX := Lib.hid hbx
  clear hW1 hbx
  go_loopw [3, 4] (fun v i wr => ∃ k : Nat, k ≤ c.nights.length ∧ i = .int .i64 k ∧ Hid (OwnG wr W1.heap.size v (groupsUp c k) ∧ Below W1.heap.size W1 wr)) (fun _ i _ => c.nights.length - (intOf i).toNat)
  case atStart => exact ⟨0, Nat.zero_le _, rfl, ⟨[], rfl, World.ownsRow_nil _ _ _ _, fun j hj => by simp [groupsUp] at hj⟩, Below.refl _ _⟩
  case round =>
    obtain ⟨N, hN, rfl, HR⟩ := hrel
    obtain ⟨q0, q1, q2, q3⟩ := four_of (blk_on HX.out HR.out.2)
    by_cases hlt : N < c.nights.length
    · have hNi : (N : Int) < c.nights.length := by omega
      go_wp2_with fail
      obtain ⟨wo, rfl⟩ : ∃ wo : World, wo = wr := ⟨_, rfl⟩
      clear q0 q1 q2 q3
      go_loopw [3, 5] (fun v i wr => ∃ h : Nat, h ≤ c.rooms.length ∧ i = .int .i64 h ∧ Hid (OwnG wr W1.heap.size v (groupsUp c N ++ groupRow c N h) ∧ Below W1.heap.size W1 wr)) (fun _ i _ => c.rooms.length - (intOf i).toNat)
      case atStart => exact ⟨0, Nat.zero_le _, rfl, by simp [groupRow]; exact HR.out.1, HR.out.2⟩
      case round =>
        obtain ⟨h, hh, rfl, HQ⟩ := hrel
        obtain ⟨q0, q1, q2, q3⟩ := four_of (blk_on HX.out HQ.out.2)
        by_cases hhl : h < c.rooms.length
        · have hhi : (h : Int) < c.rooms.length := by omega
          obtain ⟨b, off, v, rfl, hbl, hcell, hrow⟩ := HN.out N hlt
          obtain ⟨a2, c2, rfl, _, l2, h3⟩ := hrow.open
          have hlen := HOK.out.row N hlt
          obtain ⟨b2, off2, rfl, hbl2, hcell2⟩ := h3 h (by omega)
          have hBw := HB.out.trans (HQ.out.2.mono HB.out.size)
          have m1 := (hBw.cell (p := ⟨b, off + N, none⟩) hbl).trans hcell
          have m2 := (hBw.cell (p := ⟨b2, off2 + h, none⟩) hbl2).trans hcell2
          have hhi2 : (h : Int) < (nthR c.nights N).length := by omega
          have hx0 : (wr.alloc (.cells #[.int .i64 (nth (nthR c.nights N) h), .slice none 0 0] 167)).heap[wr.heap.size]? = some (.cells #[.int .i64 (nth (nthR c.nights N) h), .slice none 0 0] 167 (0, 0)) := heap_alloc_new _ _
          have hx1 : Below wr.heap.size wr (wr.alloc (.cells #[.int .i64 (nth (nthR c.nights N) h), .slice none 0 0] 167)) := (Below.refl _ _).alloc (Nat.le_refl _) _
          have HXX := Lib.hid (And.intro hx0 hx1)
          clear hcell hcell2 hrow h3 hlen hBw hx0 hx1
          go_wp2_with fail
          obtain ⟨wp, rfl⟩ : ∃ wp : World, wp = wr := ⟨_, rfl⟩
          clear q0 q1 q2 q3 m1 m2
          go_loopw [7] (fun i wq => ∃ k : Nat, k ≤ c.rooms.length ∧ i = .int .i64 k ∧ Hid (∃ u, wq.heap[wp.heap.size]? = some (.cells #[.int .i64 (nth (nthR c.nights N) h), u] 167 (0, 0)) ∧ wq.ownsRow wp.heap.size 4 1 u k (((fromL c N h).take k).map Value.bool) ∧ Below wp.heap.size wp wq ∧ Below W1.heap.size W1 wq ∧ wp.heap.size < wq.heap.size)) (fun i _ => c.rooms.length - (intOf i).toNat)
          case atStart => exact ⟨0, Nat.zero_le _, rfl, _, HXX.out.1, World.ownsRow_nil _ _ _ _, HXX.out.2, HQ.out.2.trans (HXX.out.2.mono HQ.out.2.size), (Array.getElem?_eq_some_iff.1 HXX.out.1).1⟩
          case round =>
            obtain ⟨k, hk, rfl, HS⟩ := hrel
            obtain ⟨u', g1, g2, g3, g4, g5⟩ := HS.out
            obtain ⟨aw, cw, rfl⟩ := owns_slice g2
            obtain ⟨q0, q1, q2, q3⟩ := four_of (blk_on HX.out g4)
            by_cases hkl : k < c.rooms.length
            · have hki : (k : Int) < c.rooms.length := by omega
              have hcol := HC.out.on g4
              have HCM := Lib.hid (come_any c _ _ _ _ k N wr.drew (hcol.on ((Below.refl _ wr).drew)) HOK.out hkl (by omega))
              have d0 := (cell_of_row _ _ 0 _ _ _ g1).trans rfl
              have d1 := (cell_of_row _ _ 1 _ _ _ g1).trans rfl
              have hpl : wp.heap.size < wr.heap.size := (Array.getElem?_eq_some_iff.1 g1).1
              have hszr := g4.size
              have hszp := HQ.out.2.size
              have HG := Lib.hid (And.intro g1 (And.intro g2 (And.intro g3 (And.intro g4 g5))))
              clear g1 g2 g3 g4 g5 hcol HS
              go_wp2_with fail
              go_region_law (first | (go_simp; go_at_call 107; refine HCM.out.mono ?_; rintro e w5 ⟨b5, rfl, hbs, hb5, hbw⟩; have e5 := hbs.cell h (by rw [comeC_len]; exact hhl); rw [comeC_nth hhl] at e5; have n5 := blk_on HG.out.1 ((((Below.refl wr.heap.size wr).drew)).trans hbw); have x5 := (cell_of_row _ _ 1 _ _ _ n5).trans rfl; have n6 := keep (.cells #[.bool (comeB c k N h)] 4) n5; have x6 := (cell_of_row _ _ 1 _ _ _ n6).trans rfl; have H5 := Lib.hid (And.intro n5 (And.intro ((((Below.refl wr.heap.size wr).drew)).trans hbw) (And.intro n6 (World.ownsRow.alloc (owns_below HG.out.2.1 ((((Below.refl wr.heap.size wr).drew)).trans hbw)) (.cells #[.bool (comeB c k N h)] 4))))); have hz5 := hbw.size; have hz6 : wr.heap.size ≤ w5.heap.size := hz5; clear hbs hb5 hbw n5 n6 hz5) | (refine step_append_lies _ (by rfl) _ _ _ (by rfl) wp.heap.size 4 i1 (.bool false) 1 1 Tryz.underlying86 hj hy0 hy1 hy2 rfl (by decide) (.slice aw k cw) k (((fromL c N h).take k).map Value.bool) (by rfl) H5.out.2.2.2 ⟨w5.heap.size, 0, none⟩ 1 1 [.bool (comeB c k N h)] (by rfl) rfl (World.news_of_block (heap_alloc_new _ _)) (fun y hy => by simp at hy; subst hy; rfl) (by decide) (by unfold maxLen; omega) (by omega) (by simp; omega) (w5.heap.size + 1) (by simp) ?_; intro g6 cap6 w6 hown6 hgrow6 _ _; have n7 : w6.heap[wp.heap.size]? = some (.cells #[.int .i64 (nth (nthR c.nights N) h), .slice aw k cw] 167 (0, 0)) := (hgrow6.block _ (by simp; omega) (not_own H5.out.2.2.2 H5.out.2.2.1 (by decide))).trans H5.out.2.2.1; have x7 := (cell_of_row _ _ 1 _ _ _ n7).trans rfl; have f7 := frozen_of_row w6 _ 1 _ _ n7; have H6 := Lib.hid (And.intro n7 (And.intro hown6 hgrow6)); clear n7 hown6 hgrow6))
              all_goals (have HLF := Lib.hid (group_leaf HG.out.2.2.1 HG.out.2.2.2.2 (H5.out.2.1.alloc H5.out.2.1.size _) H5.out.2.2.2 H6.out.1 H6.out.2.1 H6.out.2.2); go_wp2_with fail; go_roundw)
              all_goals first | (simp [intOf]; omega; done) | exact ⟨k + 1, by omega, by go_num, _, HLF.out.1, by rw [fromL_take hkl]; exact HLF.out.2.1, HLF.out.2.2, HQ.out.2.trans (HLF.out.2.2.mono HQ.out.2.size), (Array.getElem?_eq_some_iff.1 HLF.out.1).1⟩
            · obtain rfl : k = c.rooms.length := by omega
              have d0 := (cell_of_row _ _ 0 _ _ _ g1).trans rfl
              have d1 := (cell_of_row _ _ 1 _ _ _ g1).trans rfl
              obtain ⟨us, v0, v1, v2⟩ := HQ.out.1.below g3
              have hgl : (groupsUp c N ++ groupRow c N h).length = N * c.rooms.length + h := by rw [List.length_append, groupsUp_len, groupRow_len]
              rw [hgl] at v1
              obtain ⟨ao, co, rfl⟩ := owns_slice v1
              have hm6 : N * c.rooms.length ≤ 36 := by
                have h1 : N * c.rooms.length ≤ 6 * c.rooms.length := Nat.mul_le_mul_right _ (by omega)
                omega
              have HGL := Lib.hid hgl
              have HG := Lib.hid (And.intro g1 (And.intro g2 (And.intro g3 (And.intro g4 g5))))
              have HO := Lib.hid (And.intro v0 (And.intro v1 v2))
              clear hgl g1 g2 g3 g4 g5 v0 v1 v2 HS
              have hs1 := HG.out.2.2.2.1.size
              go_wp2_with (at_builtin; go_must (refine wpList_append_own _ rfl _ _ 164 rfl W1.heap.size 167 i0 (.agg #[.int .i64 0, .slice none 0 0]) 2 32 Tryz.underlying164 hi hz0 hz1 hz2 rfl (by decide) _ _ _ rfl (HO.out.2.1.alloc _) ⟨wr.heap.size, 0, none⟩ 1 1 [.int .i64 (nth (nthR c.nights N) h), .slice aw c.rooms.length cw] rfl rfl (World.news_of_block (heap_alloc_new _ _)) (fun x hx => by simp at hx; rcases hx with rfl | rfl <;> rfl) (by unfold maxLen; omega) (by omega) (by simp; omega) ?_); intro v' w1 hown' hgrow _; have HZ := Lib.hid (And.intro hown' hgrow); clear hown' hgrow)
              have hA : Below wr.heap.size wr (wr.alloc (.cells #[.int .i64 (nth (nthR c.nights N) h), .slice aw c.rooms.length cw] 167)) := (Below.refl _ _).alloc (Nat.le_refl _) _
              have hL : (fromL c N h).take c.rooms.length = fromL c N h := List.take_of_length_le (by rw [fromL_len]; exact Nat.le_refl _)
              have hu := (owns_base (owns_below HG.out.2.1 hA) HQ.out.2.size)
              rw [hL] at hu
              have HNEW := Lib.hid (ownG_snoc (x := nth (nthR c.nights N) h) (L := fromL c N h) HGL.out HO.out.1 (HO.out.2.1.alloc _) (fun j hj => (HO.out.2.2 j hj).alloc _) (by rw [fromL_len]; exact hu) HZ.out.1 HZ.out.2)
              have HBEL := Lib.hid (below_grown (HG.out.2.2.2.1.alloc HG.out.2.2.2.1.size _) HZ.out.2 (fun r hr => (HO.out.2.1.lt r hr).1) (by have := HG.out.2.2.2.1.size; simp; omega))
              clear hA hL hu
              go_roundw
              case rel => exact ⟨h + 1, by omega, by go_num, by rw [groupRow_succ, ← List.append_assoc]; exact HNEW.out, HBEL.out⟩
              case measure => simp [intOf]; omega
        · obtain rfl : h = c.rooms.length := by omega
          go_wp2_with fail
          go_roundw
          case rel => exact ⟨N + 1, by omega, by go_num, by rw [groupsUp_succ]; exact HQ.out.1, HQ.out.2⟩
          case measure => simp [intOf]; omega
    · obtain rfl : N = c.nights.length := by omega
      go_wp2_with fail
      go_ret
      exact ⟨_, rfl, HR.out.1.base HB.out.size, HB.out.trans (HR.out.2.mono HB.out.size)⟩
end Go.Proofs.YtnhifinfjfpoiaaGreat

namespace Go.Proofs.YtnhifinfjfpoiaaGreat
open Go.RowKit
set_option linter.unusedVariables false
set_option linter.unusedSimpArgs false

theorem bools_of_owns {w : World} {b e : Nat} {v : Value} {l : List Bool} (h : w.ownsRow b e 1 v l.length (l.map Value.bool)) (hlen : l.length ≤ 140737488355328) : IsBools w w.heap.size v l := by
  have hlt := h.lt
  obtain ⟨_, h | ⟨g, cap, cur, rfl, hg, hc, hn, hm, hs, ht⟩⟩ := h
  · obtain ⟨rfl, hn⟩ := h
    exact ⟨none, 0, by rw [hn], by omega, hlen, .inl hn⟩
  · refine ⟨some ⟨g, 0, none⟩, cap, rfl, hn, hlen, .inr ⟨g, 0, rfl, (hlt g rfl).2, fun j hj => ?_⟩⟩
    have h1 := cell_of_row w g (0 + j) _ _ _ hc
    refine h1.trans ?_
    rw [Nat.mul_one] at ht hj
    have h2 : cur.toList[j]? = (l.map Value.bool)[j]? := by
      rw [← ht, List.getElem?_take, if_pos hj]
    rw [Nat.zero_add, ← Array.getElem?_toList, h2, List.getElem?_map, List.getElem?_eq_getElem hj]
    show _ = some (Value.bool (nthB l j))
    rw [nthB_eq hj]; rfl
theorem zipTo_get (gl : List (Int × List Bool)) (us : List Value) : ∀ k j, j < k * 2 → (zipTo gl us k)[j]? = some (if j % 2 = 0 then .int .i64 (nthG gl (j / 2)).1 else us.getD (j / 2) (.slice none 0 0))
  | 0, j, h => by omega
  | k + 1, j, h => by
    unfold zipTo
    by_cases hj : j < k * 2
    · rw [List.getElem?_append_left (by rw [zipTo_len]; exact hj), zipTo_get gl us k j hj]
    · rw [List.getElem?_append_right (by rw [zipTo_len]; omega), zipTo_len]
      rcases (by omega : j = k * 2 ∨ j = k * 2 + 1) with rfl | rfl
      · have e1 : k * 2 - k * 2 = 0 := by omega
        have e2 : k * 2 % 2 = 0 := by omega
        have e3 : k * 2 / 2 = k := by omega
        rw [e1, if_pos e2, e3]; rfl
      · have e1 : k * 2 + 1 - k * 2 = 1 := by omega
        have e2 : ¬ (k * 2 + 1) % 2 = 0 := by omega
        have e3 : (k * 2 + 1) / 2 = k := by omega
        rw [e1, if_neg e2, e3]; rfl
theorem groups_of_owns {w : World} {B : Nat} {v : Value} {gl : List (Int × List Bool)} (h : OwnG w B v gl) (hlen : gl.length ≤ 140737488355328) (h6 : ∀ j, j < gl.length → (nthG gl j).2.length ≤ 140737488355328) : IsGroups w w.heap.size v gl := by
  obtain ⟨us, h0, h1, h2⟩ := h
  refine ⟨fun j => us.getD j (.slice none 0 0), ?_, fun j hj => bools_of_owns (h2 j hj) (h6 j hj)⟩
  have hlt := h1.lt
  obtain ⟨_, h | ⟨g, cap, cur, rfl, hg, hc, hn, hm, hs, ht⟩⟩ := h1
  · obtain ⟨rfl, hn⟩ := h
    exact ⟨none, 0, by rw [hn], by omega, hlen, .inl hn⟩
  · refine ⟨some ⟨g, 0, none⟩, cap, rfl, hn, hlen, .inr ⟨g, 0, rfl, (hlt g rfl).2, fun j hj => ?_⟩⟩
    have h1 := cell_of_row w g (0 + j) _ _ _ hc
    refine h1.trans ?_
    have h2 : cur.toList[j]? = (zipV gl us)[j]? := by
      rw [← ht, List.getElem?_take, if_pos hj]
    rw [Nat.zero_add, ← Array.getElem?_toList, h2]
    exact zipTo_get gl us _ j hj
theorem nthG_mem {gl : List (Int × List Bool)} {i : Nat} (h : i < gl.length) : nthG gl i ∈ gl := by rw [nthG_eq h]; exact List.getElem_mem h
theorem groupsC_mem {c : Col} {x : Int × List Bool} (h : x ∈ groupsC c) : ∃ n j, n < c.nights.length ∧ j < c.rooms.length ∧ x = (nth (nthR c.nights n) j, fromL c n j) := by
  simp only [groupsC, groupsUp, groupRow, List.mem_flatMap, List.mem_map, List.mem_range] at h
  obtain ⟨n, hn, j, hj, rfl⟩ := h
  exact ⟨n, j, hn, hj, rfl⟩
theorem groupsC_len (c : Col) : (groupsC c).length = c.nights.length * c.rooms.length := groupsUp_len c _
theorem roomOk_of {c : Col} (ok : OkCol c) : RoomOk c.rooms (groupsC c) where
  rl6 := ok.houses.2
  rooms := ok.room
  gl40 := by
    rw [groupsC_len]
    have h1 : c.nights.length * c.rooms.length ≤ 6 * 6 := Nat.mul_le_mul ok.nights ok.houses.2
    omega
  rats := fun i hi => by
    obtain ⟨n, j, hn, hj, e⟩ := groupsC_mem (nthG_mem hi)
    rw [e]
    have h1 := ok.night n j hn hj
    have h2 := ok.trap j hj
    show 0 ≤ nth (nthR c.nights n) j ∧ nth (nthR c.nights n) j ≤ 1000
    omega
  from6 := fun i hi => by
    obtain ⟨n, j, hn, hj, e⟩ := groupsC_mem (nthG_mem hi)
    rw [e]
    show (fromL c n j).length ≤ 6
    rw [fromL_len]; exact ok.houses.2
theorem groups_read {w : World} {B : Nat} {v : Value} {c : Col} (ok : OkCol c) (h : OwnG w B v (groupsC c)) : IsGroups w w.heap.size v (groupsC c) := by
  have h1 := (roomOk_of ok).gl40
  exact groups_of_owns h (by omega) (fun j hj => by have := (roomOk_of ok).from6 j hj; omega)
end Go.Proofs.YtnhifinfjfpoiaaGreat
