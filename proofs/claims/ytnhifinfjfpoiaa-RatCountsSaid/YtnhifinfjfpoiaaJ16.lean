/- Contract of the reference's Short. Contracts of rat.Short and of the reference's Short, whatever the houses. The houses that are told as short are houses of the colony. Contract of rat.Clash. The houses that Clash tells are short, in plain Lean. What stands behind the copies of a colony, of a list, and the making of the reference's colony. An argument that is a list of numbers, opened. -/
import Derived.Test.YtnhifinfjfpoiaaJ15
import Derived.Test.YtnhifinfjfpoiaaJ07
import Derived.Test.YtnhifinfjfpoiaaJ09
import Derived.Test.YtnhifinfjfpoiaaJ11
import Derived.Test.YtnhifinfjfpoiaaJ06
import Derived.Test.YtnhifinfjfpoiaaJ08
import Derived.Test.YtnhifinfjfpoiaaJ13
import Derived.Test.YtnhifinfjfpoiaaJ12
namespace Go.Proofs.Ytnhifinfjfpoiaa
open Go.RowKit
set_option linter.unusedVariables false
set_option linter.unusedSimpArgs false

/-- Is a house told in a list? -/
def toldTo (l : List Int) (h k : Nat) : Bool := anyB (fun i => decide (nth l i = (h : Int))) k
def toldB (l : List Int) (h : Nat) : Bool := toldTo l h l.length
def aloneTo (l : List Int) (from_ : List Bool) (k : Nat) : Bool := allB (fun h => toldB l h || !nthB from_ h) k
def aloneB (l : List Int) (from_ : List Bool) : Bool := aloneTo l from_ from_.length
def shortTo (c : Col) (l : List Int) (k : Nat) : Int := sumN (fun i => if aloneB l (nthG (groupsC c) i).2 = true then (nthG (groupsC c) i).1 else 0) k
theorem toldTo_succ (l : List Int) (h k : Nat) : toldTo l h (k + 1) = (toldTo l h k || decide (nth l k = (h : Int))) := anyB_succ _ _
theorem allB_succ' (p : Nat → Bool) (n : Nat) : allB p (n + 1) = (allB p n && p n) := by
  rw [Bool.eq_iff_iff, Bool.and_eq_true, allB_iff, allB_iff]
  constructor
  · intro H; exact ⟨fun i hi => H i (by omega), H n (by omega)⟩
  · rintro ⟨H, h⟩ i hi
    by_cases e : i = n
    · rw [e]; exact h
    · exact H i (by omega)
theorem aloneTo_succ (l : List Int) (f : List Bool) (k : Nat) : aloneTo l f (k + 1) = (aloneTo l f k && (toldB l k || !nthB f k)) := allB_succ' _ _
theorem shortTo_succ (c : Col) (l : List Int) (k : Nat) : shortTo c l (k + 1) = shortTo c l k + (if aloneB l (nthG (groupsC c) k).2 = true then (nthG (groupsC c) k).1 else 0) := rfl
theorem shortTo_bound {c : Col} (ok : OkCol c) (l : List Int) {k : Nat} (hk : k ≤ (groupsC c).length) : 0 ≤ shortTo c l k ∧ shortTo c l k ≤ 1000 * k := by
  have rok := roomOk_of ok
  constructor
  · exact sumN_nonneg fun i hi => by have := rok.rats i (by omega); split <;> omega
  · exact sumN_bound fun i hi => by have := rok.rats i (by omega); split <;> omega
theorem setTo_bit {l : List Int} (h0 : ∀ i, i < l.length → 0 ≤ nth l i) (h : Nat) : ∀ k, k ≤ l.length → (setTo l k).testBit h = toldTo l h k
  | 0, _ => by simp [setTo, toldTo, anyB]
  | k + 1, hk => by
    have e : setTo l (k + 1) = orN (setTo l k) (pw (nth l k).toNat) := rfl
    rw [e, orN_bit, setTo_bit h0 h k (by omega), toldTo_succ, pw_bit]
    congr 1
    have := h0 k (by omega)
    rw [Bool.eq_iff_iff]; simp; omega
theorem alone_within {l : List Int} (h0 : ∀ i, i < l.length → 0 ≤ nth l i) (f : List Bool) : aloneB l f = withinB f (setTo l l.length) := by
  unfold aloneB aloneTo withinB
  congr 1
  funext h
  rw [setTo_bit h0 h _ (Nat.le_refl _)]
  unfold toldB
  exact Bool.or_comm _ _
theorem subset_sub_fin : ∀ a b : Fin 64, subsetN a.val b.val = subB a.val (Nat.testBit b.val) := by decide +kernel
theorem subset_sub {a b : Nat} (ha : a < 64) (hb : b < 64) : subsetN a b = subB a b.testBit := subset_sub_fin ⟨a, ha⟩ ⟨b, hb⟩
theorem ratsTo_is {nl : List (Int × Int)} (hf : FrmOk nl) {m : Nat} (hm : m < 64) : ∀ k, k ≤ nl.length → ratsTo nl m k = sumN (fun o => if subB (frm nl o) m.testBit = true then rats nl o else 0) k
  | 0, _ => rfl
  | k + 1, hk => by
    have e : ratsTo nl m (k + 1) = if subsetN (frm nl k) m = true then ratsTo nl m k + (nthP nl k).1 else ratsTo nl m k := rfl
    rw [e, ratsTo_is hf hm k (by omega), sumN_succ, subset_sub (hf k (by omega)).2 hm]
    unfold rats
    split <;> omega
theorem shortTo_is {c : Col} (ok : OkCol c) {l : List Int} (h0 : ∀ i, i < l.length → 0 ≤ nth l i ∧ nth l i ≤ (c.rooms.length : Int) - 1) : shortTo c l (groupsC c).length = ratsTo (needsC c) (setTo l l.length) (needsC c).length := by
  have o2 := ok.houses.2
  have hs := setTo_lt (l := l) (fun i hi => by have := h0 i hi; omega) l.length (Nat.le_refl _)
  rw [ratsTo_is (needs_frm o2) hs _ (Nat.le_refl _)]
  have hl := like_all ok
  unfold shortTo
  rw [hl.1]
  refine sumN_congr fun i hi => ?_
  have h2 := hl.2 i (by have := hl.1; omega)
  rw [alone_within (fun i hi => (h0 i hi).1), h2.1, h2.2]
/-- Increasing houses are few. -/
theorem inc_len {c : Col} {l : List Int} (h : incB l = true) (h0 : ∀ i, i < l.length → 0 ≤ nth l i ∧ nth l i ≤ (c.rooms.length : Int) - 1) : l.length ≤ c.rooms.length := by
  unfold incB at h
  rw [allB_iff] at h
  have key : ∀ k, k < l.length → (k : Int) ≤ nth l k := by
    intro k
    induction k with
    | zero => intro hk; exact (h0 0 hk).1
    | succ k ih =>
      intro hk
      have h1 := ih (by omega)
      have h2 := h k (by omega)
      simp at h2
      have : ((k + 1 : Nat) : Int) = (k : Int) + 1 := by omega
      omega
  rcases Nat.eq_zero_or_pos l.length with e | e
  · omega
  · have h1 := key (l.length - 1) (by omega)
    have h2 := (h0 (l.length - 1) (by omega)).2
    omega

set_option maxRecDepth 100000 in
set_option maxHeartbeats 4000000 in
theorem rShort_good (c : Col) (r t u n lv : Value) (l : List Int) (w : World) (hc : ColAt w w.heap.size r t u n c) (hw : IsInts w w.heap.size lv l) (hk : shortErr c l = 0) :
    Calls Try.prog 45 #[.agg #[r, t, u, n], lv] w fun e w' => e = .returned (.tuple #[.int .i64 (shortV c l).1, .int .i64 (shortV c l).2]) ∧ Below w.heap.size w w' := by
  have hBW : Below w.heap.size w (w.alloc (.cells #[r, t, u, n] 32)) := (Below.refl w.heap.size w).alloc (Nat.le_refl _) _
  have hk2 : checkC c = 0 ∧ allHouse c l = true := by
    unfold shortErr at hk
    by_cases q : checkC c = 0
    · rw [if_pos q] at hk
      cases q3 : allHouse c l <;> simp [q3] at hk
      exact ⟨q, rfl⟩
    · rw [if_neg q] at hk; exact absurd hk q
  obtain ⟨k0, k2⟩ := hk2
  have ok := okCol_of k0
  have hcA := hc.on hBW
  have hcheck := rcheck_any c r t u n _ hcA
  rw [k0] at hcheck
  have hx : (w.alloc (.cells #[r, t, u, n] 32)).heap[w.heap.size]? = some (.cells #[r, t, u, n] 32 (0, 0)) := blk _ _ _ _ rfl
  have hV : shortV c l = if incB l = true then (if shortN c l ≤ 0 then (0, 8) else (shortN c l, 0)) else (0, 6) := by unfold shortV; rw [if_pos hk]
  obtain ⟨hr, htr, hu, hn⟩ := hc
  obtain ⟨ar, cr, rfl, _, _, hr3⟩ := hr.open
  obtain ⟨at_, ct, rfl, _⟩ := htr.open
  obtain ⟨au, cu, rfl, _⟩ := hu.open
  obtain ⟨an, cn, rfl, _⟩ := hn.open
  have o2 := ok.houses.2
  have hall : ∀ i, i < l.length → 0 ≤ nth l i ∧ nth l i ≤ (c.rooms.length : Int) - 1 := fun i hi => inB_true (allB_iff.1 k2 i hi)
  obtain ⟨aw, cw, rfl, w1', w2', w3'⟩ := hw.open
  have HB := Lib.hid hBW; have HX := Lib.hid hx; have HC := Lib.hid hcA; have HCK := Lib.hid hcheck; have HOK := Lib.hid ok
  have HALL := Lib.hid hall; have HW3 := Lib.hid w3'; have HR3 := Lib.hid hr3; have HV := Lib.hid hV; have HW := Lib.hid (hw.below hBW (Nat.le_refl _))
  clear htr hu hn hr hr3 hBW hk k0 k2 hall hw w3' hV ok hcA hx hcheck
  go_enter Try.func45, Try.ntmps45
  go_wp2_with fail
  refine HCK.out.mono ?_
  rintro e w1 ⟨rfl, hb1⟩
  have HB1 := Lib.hid (HB.out.trans (hb1.mono HB.out.size))
  have HX1 := Lib.hid (blk_on HX.out hb1)
  have HC1 := Lib.hid (HC.out.on hb1)
  clear hb1
  go_wp2_with fail
  go_loopw [7] (fun i wr => ∃ k : Nat, k ≤ l.length ∧ i = .int .i64 k ∧ Hid (Below w1.heap.size w1 wr)) (fun i _ => l.length - (intOf i).toNat)
  case atStart => exact ⟨0, Nat.zero_le _, rfl, Below.refl _ _⟩
  case round =>
    obtain ⟨k, hk, rfl, HR⟩ := hrel
    by_cases hlt : k < l.length
    · have hki : (k : Int) < (l.length : Int) := by omega
      obtain ⟨bw, offw, rfl, hbw, hcw⟩ := HW3.out k hlt
      have hBr := HB1.out.trans (HR.out.mono HB1.out.size)
      have d1 := (hBr.cell (p := ⟨bw, offw + k, none⟩) hbw).trans hcw
      obtain ⟨q0, q1, q2, q3⟩ := four_of (blk_on HX1.out HR.out)
      have ha := HALL.out k hlt
      have hin : inB (nth l k) 0 (c.rooms.length - 1) = true := by unfold inB; simp; omega
      have hoff := off_in hin
      clear hBr hcw
      go_wp2_with fail
      go_quiet ((go_at_call 87; exact quiet_same (hoff _)))
      go_wp2_with fail
      go_roundw
      case rel => exact ⟨k + 1, by omega, by go_num, Below.drewN HR.out _⟩
      case measure => simp [intOf]; omega
    · obtain rfl : k = l.length := by omega
      go_wp2_with fail
      have HB2 := Lib.hid (HB1.out.trans (HR.out.mono HB1.out.size))
      have HX2 := Lib.hid (blk_on HX1.out HR.out)
      have HC2 := Lib.hid (HC1.out.on HR.out)
      obtain ⟨w2, rfl⟩ : ∃ w2 : World, w2 = wr := ⟨_, rfl⟩
      go_loopw [8] (fun i wr => ∃ k : Nat, (k ≤ l.length ∨ k = 1) ∧ 1 ≤ k ∧ i = .int .i64 k ∧ Hid (Below w2.heap.size w2 wr ∧ ∀ j, j + 1 < k → nth l j < nth l (j + 1))) (fun i _ => l.length - (intOf i).toNat)
      case atStart => exact ⟨1, .inr rfl, Nat.le_refl _, rfl, Below.refl _ _, fun j hj => by omega⟩
      case round =>
        obtain ⟨k, hk2, hk1, rfl, HQ⟩ := hrel
        by_cases hlt : k < l.length
        · obtain ⟨j, rfl⟩ : ∃ j, k = j + 1 := ⟨k - 1, by omega⟩
          have hki : ((j : Int) + 1) < (l.length : Int) := by omega
          have hji : (j : Int) < (l.length : Int) := by omega
          obtain ⟨bw, offw, rfl, hbw, hcw⟩ := HW3.out (j + 1) hlt
          obtain ⟨bw2, offw2, e2, _, hcw2⟩ := HW3.out j (by omega)
          cases e2
          have hBr := HB2.out.trans (HQ.out.1.mono HB2.out.size)
          have d1 := (hBr.cell (p := ⟨bw, offw + (j + 1), none⟩) hbw).trans hcw
          have d2 := (hBr.cell (p := ⟨bw, offw + j, none⟩) hbw).trans hcw2
          have HBR := Lib.hid hBr
          clear hBr hcw hcw2
          by_cases hle : nth l (j + 1) ≤ nth l j
          · go_wp2_with fail
            go_quiet (fail)
            go_wp2_with fail
            go_ret2
            refine ⟨?_, Below.drewN HBR.out _⟩
            rw [HV.out, incB_no (i := j) (by omega) (by omega)]
            rfl
          · go_wp2_with fail
            go_quiet (fail)
            go_wp2_with fail
            go_roundw
            case rel =>
              refine ⟨j + 1 + 1, .inl (by omega), by omega, by go_num, Below.drewN HQ.out.1 _, fun i hi => ?_⟩
              by_cases e : i = j
              · rw [e]; omega
              · exact HQ.out.2 i (by omega)
            case measure => simp [intOf]; omega
        · have hinc : incB l = true := allB_iff.2 (fun i hi => by simpa using HQ.out.2 i (by omega))
          have HINC := Lib.hid hinc
          have hlen := inc_len hinc HALL.out
          have HB3 := Lib.hid (HB2.out.trans (HQ.out.1.mono HB2.out.size))
          have HX3 := Lib.hid (blk_on HX2.out HQ.out.1)
          have HC3 := Lib.hid (HC2.out.on HQ.out.1)
          obtain ⟨q0, q1, q2, q3⟩ := four_of HX3.out
          have HGR := Lib.hid (groups_any c _ _ _ _ wr HC3.out HOK.out)
          clear hinc hk1 hk2 hk
          go_wp2_with (go_at_call 114; refine HGR.out.mono ?_; rintro e w4 ⟨v4, rfl, hg4, hb4⟩; obtain ⟨a4, c4, rfl, _, g42, g43⟩ := (groups_read HOK.out hg4).open; have HG4 := Lib.hid g43; have H4 := Lib.hid hb4; clear hg4 hb4 g43)
          have hX4 := blk_on HX3.out H4.out
          have HX4 := Lib.hid hX4
          have HB4 := Lib.hid (HB3.out.trans (H4.out.mono HB3.out.size))
          have gl40 := (roomOk_of HOK.out).gl40
          clear q0 q1 q2 q3 hX4
          go_loopw [9, 56] (fun a i wq => ∃ k : Nat, k ≤ (groupsC c).length ∧ i = .int .i64 k ∧ a = .int .i64 (shortTo c l k) ∧ Hid (Below w4.heap.size w4 wq)) (fun _ i _ => (groupsC c).length - (intOf i).toNat)
          case atStart => exact ⟨0, Nat.zero_le _, rfl, rfl, Below.refl _ _⟩
          case round =>
            obtain ⟨k, hk, rfl, rfl, HG⟩ := hrel
            have hsb := shortTo_bound HOK.out l hk
            by_cases hlt : k < (groupsC c).length
            · have hki : (k : Int) < (groupsC c).length := by omega
              obtain ⟨bg, og, u, rfl, hbg, m1, m2, hu⟩ := HG4.out k hlt
              obtain ⟨af, cf, rfl, _, _, hu3⟩ := (hu.on HG.out).open
              have d1 := (HG.out.cell (p := ⟨bg, og + k * 2, none⟩) hbg).trans m1
              have d2 := (HG.out.cell (p := ⟨bg, og + k * 2 + 1, none⟩) hbg).trans m2
              have hr := (roomOk_of HOK.out).rats k hlt
              have hf6 := (roomOk_of HOK.out).from6 k hlt
              have HU3 := Lib.hid hu3
              have HRT := Lib.hid hr
              have HSB := Lib.hid hsb
              have HSS := Lib.hid (shortTo_succ c l k)
              generalize nthG (groupsC c) k = X at *
              obtain ⟨x, f⟩ := X
              simp only at *
              have hBA : Below wr.heap.size wr (wr.alloc (.cells #[.int .i64 x, .slice af f.length cf] 158)) := (Below.refl _ _).alloc (Nat.le_refl _) _
              have hgb : (wr.alloc (.cells #[.int .i64 x, .slice af f.length cf] 158)).heap[wr.heap.size]? = some (.cells #[.int .i64 x, .slice af f.length cf] 158 (0, 0)) := heap_alloc_new _ _
              have HBA := Lib.hid (And.intro hBA hgb)
              clear m1 m2 hu hu3 hr hsb hBA hgb
              go_wp2_with fail
              obtain ⟨W4, hW4⟩ : ∃ W4, (wr.alloc (.cells #[.int .i64 x, .slice af f.length cf] 158)) = W4 := ⟨_, rfl⟩
              rw [hW4] at HBA ⊢
              clear hW4
              have e0 := (cell_of_row _ _ 0 _ _ _ HBA.out.2).trans rfl
              have e1 := (cell_of_row _ _ 1 _ _ _ HBA.out.2).trans rfl
              obtain ⟨wo, rfl⟩ : ∃ wo : World, wo = wr := ⟨_, rfl⟩
              clear d1 d2
              go_loopw [12, 13] (fun b i wi => ∃ h : Nat, h ≤ f.length ∧ i = .int .i64 h ∧ b = .bool (aloneTo l f h) ∧ W4 = wi) (fun _ i _ => f.length - (intOf i).toNat)
              case atStart => exact ⟨0, Nat.zero_le _, rfl, rfl, rfl⟩
              case round =>
                obtain ⟨h, hh, rfl, rfl, rfl⟩ := hrel
                by_cases hhl : h < f.length
                · have hhi : (h : Int) < f.length := by omega
                  go_wp2_with fail
                  go_loopw [14, 15] (fun b i wi => ∃ q : Nat, q ≤ l.length ∧ i = .int .i64 q ∧ b = .bool (toldTo l h q) ∧ W4 = wi) (fun _ i _ => l.length - (intOf i).toNat)
                  case atStart => exact ⟨0, Nat.zero_le _, rfl, rfl, rfl⟩
                  case round =>
                    obtain ⟨q, hq, rfl, rfl, rfl⟩ := hrel
                    by_cases hql : q < l.length
                    · have hqi : (q : Int) < l.length := by omega
                      obtain ⟨bw, offw, rfl, hbw, hcw⟩ := HW3.out q hql
                      have d1 := ((HB4.out.trans ((HG.out.trans (HBA.out.1.mono HG.out.size)).mono HB4.out.size)).cell (p := ⟨bw, offw + q, none⟩) hbw).trans hcw
                      have hsu := toldTo_succ l h q
                      clear hcw
                      cases ht : toldTo l h q
                      · rw [ht] at hsu
                        have HSU := Lib.hid hsu
                        clear ht hsu
                        go_wp2_with fail
                        go_roundw
                        case rel => exact ⟨q + 1, by omega, by go_num, by rw [HSU.out, Bool.false_or]; exact congrArg Value.bool (by rw [Bool.eq_iff_iff]; simp), by simp⟩
                        case measure => simp [intOf]; omega
                      · rw [ht] at hsu
                        have HSU := Lib.hid hsu
                        clear ht hsu
                        go_wp2_with fail
                        go_roundw
                        case rel => exact ⟨q + 1, by omega, by go_num, by rw [HSU.out]; simp, by simp⟩
                        case measure => simp [intOf]; omega
                    · obtain rfl : q = l.length := by omega
                      obtain ⟨bf, of, rfl, hbf, hcf⟩ := HU3.out h hhl
                      have d1 := (HBA.out.1.cell (p := ⟨bf, of + h, none⟩) hbf).trans hcf
                      have hsu := aloneTo_succ l f h
                      have htd : toldTo l h l.length = toldB l h := rfl
                      clear hcf
                      rw [htd]
                      clear htd
                      cases ha : aloneTo l f h
                      · rw [ha] at hsu
                        have HSU := Lib.hid hsu
                        clear ha hsu
                        go_wp2_with fail
                        go_roundw
                        case rel => exact ⟨h + 1, by omega, by go_num, by rw [HSU.out]; simp, by simp⟩
                        case measure => simp [intOf]; omega
                      · cases ht : toldB l h
                        · rw [ha, ht] at hsu
                          have HSU := Lib.hid hsu
                          clear ha ht hsu
                          go_wp2_with fail
                          go_roundw
                          case rel => exact ⟨h + 1, by omega, by go_num, by rw [HSU.out]; simp, by simp⟩
                          case measure => simp [intOf]; omega
                        · rw [ha, ht] at hsu
                          have HSU := Lib.hid hsu
                          clear ha ht hsu
                          go_wp2_with fail
                          go_roundw
                          case rel => exact ⟨h + 1, by omega, by go_num, by rw [HSU.out]; simp, by simp⟩
                          case measure => simp [intOf]; omega
                · obtain rfl : h = f.length := by omega
                  have hal : aloneTo l f f.length = aloneB l f := rfl
                  rw [hal]
                  clear hal
                  cases ha : aloneB l f
                  · have HA := Lib.hid ha
                    clear ha
                    go_wp2_with fail
                    go_roundw
                    case rel => exact ⟨k + 1, by omega, by go_num, by rw [HSS.out, HA.out]; simp, HG.out.trans (HBA.out.1.mono HG.out.size)⟩
                    case measure => simp [intOf]; omega
                  · have HA := Lib.hid ha
                    clear ha
                    have hsb := HSB.out
                    have hr := HRT.out
                    go_wp2_with fail
                    go_roundw
                    case rel => exact ⟨k + 1, by omega, by go_num, by rw [HSS.out, HA.out]; simp, HG.out.trans (HBA.out.1.mono HG.out.size)⟩
                    case measure => simp [intOf]; omega
            · obtain rfl : k = (groupsC c).length := by omega
              go_wp2_with fail
              have HB6 := Lib.hid (HB4.out.trans (HG.out.mono HB4.out.size))
              have HX6 := Lib.hid (blk_on HX4.out HG.out)
              have hsh := shortTo_is HOK.out HALL.out
              have hrt := ratsTo_bound (needs_rats HOK.out) (setTo l l.length) (needsC c).length (Nat.le_refl _)
              have hnl := needsC_len HOK.out
              rw [hsh]
              have HSH := Lib.hid hrt
              obtain ⟨w6, rfl⟩ : ∃ w6 : World, w6 = wr := ⟨_, rfl⟩
              clear hsb hsh hrt
              go_loopw [9, 16] (fun a i wq => ∃ k : Nat, k ≤ l.length ∧ i = .int .i64 k ∧ a = .int .i64 (ratsTo (needsC c) (setTo l l.length) (needsC c).length - roomTo c l k) ∧ Hid (Below w6.heap.size w6 wq)) (fun _ i _ => l.length - (intOf i).toNat)
              case atStart => exact ⟨0, Nat.zero_le _, rfl, by simp [roomTo], Below.refl _ _⟩
              case round =>
                obtain ⟨k, hk, rfl, rfl, HQ⟩ := hrel
                have hrb := roomTo_bound HOK.out HALL.out k hk
                have hrt := HSH.out
                by_cases hlt : k < l.length
                · have hki : (k : Int) < (l.length : Int) := by omega
                  obtain ⟨bw, offw, rfl, hbw, hcw⟩ := HW3.out k hlt
                  have hBr := HB6.out.trans (HQ.out.mono HB6.out.size)
                  have ha1 := HALL.out k hlt
                  have d1 := (hBr.cell (p := ⟨bw, offw + k, none⟩) hbw).trans hcw
                  obtain ⟨q0, q1, q2, q3⟩ := four_of (blk_on HX6.out HQ.out)
                  have hrsucc : roomTo c l (k + 1) = roomTo c l k + nth c.rooms (nth l k).toNat := rfl
                  obtain ⟨x, hx⟩ : ∃ x : Nat, nth l k = x := ⟨(nth l k).toNat, by omega⟩
                  rw [hx] at d1 ha1 hrsucc
                  simp only [Int.toNat_natCast] at hrsucc
                  have hxr : (x : Int) < c.rooms.length := by omega
                  obtain ⟨br, offr, rfl, hbr, hcr⟩ := HR3.out x (by omega)
                  have d2 := (hBr.cell (p := ⟨br, offr + x, none⟩) hbr).trans hcr
                  have hroom := HOK.out.room x (by omega)
                  have HS := Lib.hid hrsucc
                  clear hcw hcr hrsucc hBr hx
                  go_wp2_with fail
                  go_quiet (fail)
                  go_wp2_with fail
                  go_roundw
                  case rel => exact ⟨k + 1, by omega, by go_num, by rw [HS.out]; congr 1; omega, Below.drewN HQ.out _⟩
                  case measure => simp [intOf]; omega
                · obtain rfl : k = l.length := by omega
                  have hN : shortN c l = ratsTo (needsC c) (setTo l l.length) (needsC c).length - roomTo c l l.length := rfl
                  have HBF := Lib.hid (HB6.out.trans (HQ.out.mono HB6.out.size))
                  by_cases hle : ratsTo (needsC c) (setTo l l.length) (needsC c).length - roomTo c l l.length < 1
                  · go_wp2_with fail
                    go_ret2
                    refine ⟨?_, HBF.out⟩
                    rw [HV.out, if_pos HINC.out, if_pos (by omega)]
                    rfl
                  · go_wp2_with fail
                    go_ret2
                    refine ⟨?_, HBF.out⟩
                    rw [HV.out, if_pos HINC.out, if_neg (by omega), hN]
                    rfl
end Go.Proofs.Ytnhifinfjfpoiaa

namespace Go.Proofs.Ytnhifinfjfpoiaa
open Go.RowKit
set_option linter.unusedVariables false
set_option linter.unusedSimpArgs false

theorem shortV_bad {c : Col} {l : List Int} (hk : ¬ shortErr c l = 0) : shortV c l = (0, shortErr c l) := by unfold shortV; rw [if_neg hk]
theorem short_cases {c : Col} {l : List Int} (hk : ¬ shortErr c l = 0) : (checkC c ≠ 0 ∧ shortErr c l = checkC c) ∨ (checkC c = 0 ∧ allHouse c l = false ∧ shortErr c l = 2) := by
  unfold shortErr at hk ⊢
  by_cases q : checkC c = 0
  · rw [if_pos q] at hk ⊢
    cases q2 : allHouse c l
    · exact .inr ⟨q, rfl, by simp⟩
    · rw [q2] at hk; simp at hk
  · rw [if_neg q]; exact .inl ⟨q, rfl⟩

set_option maxRecDepth 100000 in
set_option maxHeartbeats 2000000 in
theorem Short_bad (c : Col) (r t u n lv : Value) (l : List Int) (w : World) (hc : ColAt w w.heap.size r t u n c) (hw : IsInts w w.heap.size lv l) (hk : ¬ shortErr c l = 0) :
    Calls Try.prog 43 #[.agg #[r, t, u, n], lv] w fun e w' => e = .returned (.tuple #[.int .i64 (shortV c l).1, .int .i64 (shortV c l).2]) ∧ Below w.heap.size w w' := by
  rw [shortV_bad hk]
  have hBW := (Below.refl w.heap.size w).alloc (Nat.le_refl _) (.cells #[r, t, u, n] 26)
  have HC := Lib.hid ((hc.below hBW (Nat.le_refl _)).mono (B' := (w.alloc (.cells #[r, t, u, n] 26)).heap.size) (by simp))
  have hcs := short_cases hk
  obtain ⟨hr, htr, hu, hn⟩ := hc
  obtain ⟨ar, cr, rfl, _⟩ := hr.open
  obtain ⟨at_, ct, rfl, _⟩ := htr.open
  obtain ⟨au, cu, rfl, _⟩ := hu.open
  obtain ⟨an, cn, rfl, _⟩ := hn.open
  have HB := Lib.hid hBW
  have HW := Lib.hid hw
  obtain ⟨aw, cw, rfl, _⟩ := hw.open
  clear hr htr hu hn hBW hk hw
  rcases hcs with ⟨q, e⟩ | ⟨q, q2, e⟩
  · have HCK := Lib.hid (opened_bad c _ _ _ _ _ HC.out q)
    rw [e]
    have hk1 : (checkC c == 0) = false := by simpa using q
    have hk2 : (checkC c != 0) = true := by simp [bne, hk1]
    clear q e HC
    go_enter Try.func43, Try.ntmps43
    go_wp2_with fail
    refine HCK.out.mono ?_
    rintro e w1 ⟨rfl, hb1⟩
    go_wp2_with fail
    go_ret2
    exact ⟨rfl, HB.out.trans (hb1.mono (by simp))⟩
  · have HCK := Lib.hid (opened_ok c _ _ _ _ _ HC.out q)
    rw [e]
    clear q e HC
    go_enter Try.func43, Try.ntmps43
    go_wp2_with fail
    refine HCK.out.mono ?_
    rintro e w1 ⟨p, rfl, hb1, hd⟩
    have HE := Lib.hid (everyHouse_any c p l (.slice aw l.length cw) w1 hd ((HW.out.below (HB.out.trans (hb1.mono (by simp))) (Nat.le_refl _)).mono (HB.out.trans (hb1.mono (by simp))).size) q2)
    have HD := Lib.hid (HB.out.trans (hb1.mono (by simp)))
    clear hb1 hd
    go_wp2_with (go_at_call 81; refine HE.out.mono ?_; rintro e w2 ⟨rfl, hb2⟩; have H2 := Lib.hid hb2; clear hb2)
    go_ret2
    exact ⟨rfl, HD.out.trans (H2.out.mono HD.out.size)⟩

set_option maxRecDepth 100000 in
set_option maxHeartbeats 2000000 in
theorem rShort_bad (c : Col) (r t u n lv : Value) (l : List Int) (w : World) (hc : ColAt w w.heap.size r t u n c) (hw : IsInts w w.heap.size lv l) (hk : ¬ shortErr c l = 0) :
    Calls Try.prog 45 #[.agg #[r, t, u, n], lv] w fun e w' => e = .returned (.tuple #[.int .i64 (shortV c l).1, .int .i64 (shortV c l).2]) ∧ Below w.heap.size w w' := by
  rw [shortV_bad hk]
  have hBW : Below w.heap.size w (w.alloc (.cells #[r, t, u, n] 32)) := (Below.refl w.heap.size w).alloc (Nat.le_refl _) _
  have hcs := short_cases hk
  have hcA := hc.on hBW
  have HCK := Lib.hid (rcheck_any c r t u n _ hcA)
  have hx : (w.alloc (.cells #[r, t, u, n] 32)).heap[w.heap.size]? = some (.cells #[r, t, u, n] 32 (0, 0)) := blk _ _ _ _ rfl
  obtain ⟨hr, htr, hu, hn⟩ := hc
  obtain ⟨ar, cr, rfl, _⟩ := hr.open
  obtain ⟨at_, ct, rfl, _⟩ := htr.open
  obtain ⟨au, cu, rfl, _⟩ := hu.open
  obtain ⟨an, cn, rfl, _⟩ := hn.open
  obtain ⟨aw, cw, rfl, _, _, w3'⟩ := hw.open
  have HB := Lib.hid hBW; have HX := Lib.hid hx; have HC := Lib.hid hcA; have HW3 := Lib.hid w3'
  clear hr htr hu hn hBW hk hw hcA hx w3'
  rcases hcs with ⟨q, e⟩ | ⟨q, q2, e⟩
  · rw [e]
    have hk1 : (checkC c == 0) = false := by simpa using q
    have hk2 : (checkC c != 0) = true := by simp [bne, hk1]
    clear q e HC
    go_enter Try.func45, Try.ntmps45
    go_wp2_with fail
    refine HCK.out.mono ?_
    rintro e w1 ⟨rfl, hb1⟩
    go_wp2_with fail
    go_ret2
    exact ⟨rfl, HB.out.trans (hb1.mono HB.out.size)⟩
  · rw [e]
    rw [q] at HCK
    have HQ2 := Lib.hid q2
    have o2 := (okCol_of q).houses.2
    clear q q2 e
    go_enter Try.func45, Try.ntmps45
    go_wp2_with fail
    refine HCK.out.mono ?_
    rintro e w1 ⟨rfl, hb1⟩
    have HB1 := Lib.hid (HB.out.trans (hb1.mono HB.out.size))
    have HX1 := Lib.hid (blk_on HX.out hb1)
    clear hb1
    go_wp2_with fail
    go_loopw [7] (fun i wr => ∃ k : Nat, k ≤ l.length ∧ i = .int .i64 k ∧ Hid (Below w1.heap.size w1 wr ∧ ∀ j, j < k → inB (nth l j) 0 (c.rooms.length - 1) = true)) (fun i _ => l.length - (intOf i).toNat)
    case atStart => exact ⟨0, Nat.zero_le _, rfl, Below.refl _ _, fun j hj => by omega⟩
    case round =>
      obtain ⟨k, hk, rfl, HR⟩ := hrel
      by_cases hlt : k < l.length
      · have hki : (k : Int) < (l.length : Int) := by omega
        obtain ⟨bw, offw, rfl, hbw, hcw⟩ := HW3.out k hlt
        have hBr := HB1.out.trans (HR.out.1.mono HB1.out.size)
        have d1 := (hBr.cell (p := ⟨bw, offw + k, none⟩) hbw).trans hcw
        obtain ⟨q0, q1, q2, q3⟩ := four_of (blk_on HX1.out HR.out.1)
        have HBR := Lib.hid hBr
        clear hBr hcw
        cases hin : inB (nth l k) 0 (c.rooms.length - 1)
        · have hoff := off_out hin
          clear hin
          go_wp2_with fail
          go_quiet ((go_at_call 87; exact quiet_same (hoff _)))
          go_wp2_with fail
          go_ret2
          exact ⟨rfl, Below.drewN HBR.out _⟩
        · have hoff := off_in hin
          have HIN := Lib.hid hin
          clear hin
          go_wp2_with fail
          go_quiet ((go_at_call 87; exact quiet_same (hoff _)))
          go_wp2_with fail
          go_roundw
          case rel =>
            refine ⟨k + 1, by omega, by go_num, Below.drewN HR.out.1 _, fun j hj => ?_⟩
            by_cases ej : j = k
            · rw [ej]; exact HIN.out
            · exact HR.out.2 j (by omega)
          case measure => simp [intOf]; omega
      · obtain rfl : k = l.length := by omega
        exfalso
        have : allHouse c l = true := allB_iff.2 (fun i hi => HR.out.2 i hi)
        rw [HQ2.out] at this
        cases this

theorem short_any (c : Col) (r t u n lv : Value) (l : List Int) (w : World) (hc : ColAt w w.heap.size r t u n c) (hw : IsInts w w.heap.size lv l) :
    (Calls Try.prog 43 #[.agg #[r, t, u, n], lv] w fun e w' => e = .returned (.tuple #[.int .i64 (shortV c l).1, .int .i64 (shortV c l).2]) ∧ Below w.heap.size w w') ∧
    (Calls Try.prog 45 #[.agg #[r, t, u, n], lv] w fun e w' => e = .returned (.tuple #[.int .i64 (shortV c l).1, .int .i64 (shortV c l).2]) ∧ Below w.heap.size w w') := by
  by_cases q : shortErr c l = 0
  · exact ⟨Short_good c r t u n lv l w hc hw q, rShort_good c r t u n lv l w hc hw q⟩
  · exact ⟨Short_bad c r t u n lv l w hc hw q, rShort_bad c r t u n lv l w hc hw q⟩
end Go.Proofs.Ytnhifinfjfpoiaa

namespace Go.Proofs.Ytnhifinfjfpoiaa
open Go.RowKit

def InN (n t : Nat) : Prop := ∀ h, t.testBit h = true → h < n
theorem InN.or {n a b : Nat} (h : InN n a) (k : InN n b) : InN n (orN a b) := fun o ho => by
  rw [orN_bit, Bool.or_eq_true] at ho
  exact ho.elim (h o) (k o)
theorem InN.pw {n k : Nat} (h : k < n) : InN n (pw k) := fun o ho => by
  rw [pw_bit] at ho
  have : k = o := by simpa using ho
  omega
theorem tryO_in {rec : Nat → St → Bool × St} {n : Nat} (hr : ∀ o s, InN n s.t → InN n (rec o s).2.t) (k h : Nat) : ∀ (l : List Nat) (s : St), InN n s.t → InN n (tryO rec k h l s).2.t
  | [], s, hs => hs
  | o :: l, s, hs => by
    rw [tryO_cons]
    split
    · split
      · exact hr o s hs
      · exact tryO_in hr k h l _ (hr o s hs)
    · exact tryO_in hr k h l s hs
theorem tryH_in {rec : Nat → St → Bool × St} {n : Nat} (hr : ∀ o s, InN n s.t → InN n (rec o s).2.t) (K k : Nat) : ∀ (l : List Nat) (s : St), (∀ h ∈ l, h < n) → InN n s.t → InN n (tryH rec K k l s).2.t
  | [], s, _, hs => hs
  | h :: l, s, hl, hs => by
    have ht : InN n (s.tick h).t := hs.or (InN.pw (hl h (by simp)))
    have hl' : ∀ x ∈ l, x < n := fun x hx => hl x (by simp [hx])
    rw [tryH_cons]
    split
    · exact tryH_in hr K k l s hl' hs
    · split
      · exact ht
      · split
        · exact tryO_in hr k h _ _ ht
        · exact tryH_in hr K k l _ hl' (tryO_in hr k h _ _ ht)
theorem tryF_in {from_ : Nat → Nat} {K n : Nat} (hf : ∀ k, InN n (from_ k)) : ∀ m o s, InN n s.t → InN n (tryF from_ K m o s).2.t
  | 0, _, _, hs => hs
  | m + 1, o, s, hs => tryH_in (fun o s h => tryF_in hf m o s h) K o _ s (fun h hh => hf o h (List.mem_filter.1 hh).2) hs
theorem zero_in (n : Nat) : InN n 0 := fun h hh => by simp at hh
theorem shRep_in {nl : List (Int × Int)} {n : Nat} (hf : ∀ k, InN n (frm nl k)) (k : Nat) : ∀ m (x : Sh), InN n x.short → InN n (shRep nl k m x).short
  | 0, _, h => h
  | m + 1, x, h => by
    unfold shRep
    split
    · exact shRep_in hf k m _ h
    · show InN n (if x.torn = true then x.short else (putF nl k x.room x.giv).2.t)
      split
      · exact h
      · exact tryF_in hf _ _ _ (zero_in n)
theorem short_in {nl : List (Int × Int)} {rl : List Int} {n : Nat} (hf : ∀ k, InN n (frm nl k)) : InN n (shareF nl rl).short := by
  have key : ∀ (l : List Nat) (x : Sh), InN n x.short → InN n (l.foldl (shNeed nl) x).short := by
    intro l
    induction l with
    | nil => intro x h; exact h
    | cons k l ih => intro x h; exact ih _ (shRep_in hf k _ x h)
  exact key _ _ (zero_in n)
theorem frm_in {c : Col} (ok : OkCol c) (k : Nat) : InN c.rooms.length (frm (needsC c) k) := by
  intro h hb
  unfold frm at hb
  by_cases hk : k < (needsC c).length
  · have hm : nthP (needsC c) k ∈ needsC c := nthP_mem hk
    obtain ⟨n, j, _, _, e⟩ := needsC_mem hm
    rw [e] at hb
    exact org_only ok n j h hb
  · have e : nthP (needsC c) k = (0, 0) := by unfold nthP; rw [List.getD_eq_getElem?_getD, List.getElem?_eq_none (by omega)]; rfl
    rw [e] at hb; simp at hb
theorem fit_short_in {c : Col} (ok : OkCol c) : InN c.rooms.length (fitX c).short := short_in (frm_in ok)
end Go.Proofs.Ytnhifinfjfpoiaa

namespace Go.Proofs.Ytnhifinfjfpoiaa
open Go.RowKit
set_option linter.unusedVariables false
attribute [local go_sem] Oper.semAt_some

/-- The error of Clash, and the houses that it tells. -/
def clashErr (c : Col) : Int := if checkC c = 0 then (if (fitX c).torn = true then 0 else 1) else checkC c
def clashV (c : Col) : List Int := if clashErr c = 0 then natsI (members (fitX c).short) else []

set_option maxRecDepth 100000 in
set_option maxHeartbeats 1000000 in
theorem Clash_any (c : Col) (r t u n : Value) (w : World) (hc : ColAt w w.heap.size r t u n c) (hs64 : checkC c = 0 → (fitX c).torn = true → (fitX c).short < 64) :
    Calls Try.prog 46 #[.agg #[r, t, u, n]] w fun e w' => ∃ v, e = .returned (.tuple #[v, .int .i64 (clashErr c)]) ∧ IsInts w' w'.heap.size v (clashV c) ∧ Below w.heap.size w w' := by
  have hBW := (Below.refl w.heap.size w).alloc (Nat.le_refl _) (.cells #[r, t, u, n] 26)
  have hcA := (hc.below hBW (Nat.le_refl _)).mono (B' := (w.alloc (.cells #[r, t, u, n] 26)).heap.size) (by simp)
  have c0 : (w.alloc (.cells #[r, t, u, n] 26)).cell? ⟨w.heap.size, 0, none⟩ = some r := by simp [go_sem]
  have HR := Lib.hid hcA.1
  have HC := Lib.hid hcA
  obtain ⟨hr, htr, hu, hn⟩ := hc
  obtain ⟨ar, cr, rfl, _⟩ := hr.open
  obtain ⟨at_, ct, rfl, _⟩ := htr.open
  obtain ⟨au, cu, rfl, _⟩ := hu.open
  obtain ⟨an, cn, rfl, _⟩ := hn.open
  have HB := Lib.hid hBW
  have HS64 := Lib.hid hs64
  clear hr htr hu hn hBW hcA hs64
  by_cases q : checkC c = 0
  · have HCK := Lib.hid (opened_ok c _ _ _ _ _ HC.out q)
    have o2 := (okCol_of q).houses.2
    cases ht : (fitX c).torn
    · have e1 : clashErr c = 1 := by unfold clashErr; rw [if_pos q, ht]; rfl
      have e2 : clashV c = [] := by unfold clashV; rw [e1]; rfl
      rw [e1, e2]
      have HT2 := ht
      unfold fitX at HT2
      clear HC q ht e1 e2
      go_enter Try.func46, Try.ntmps46
      go_wp2_with fail
      refine HCK.out.mono ?_
      rintro e w1 ⟨p, rfl, hb1, hd⟩
      have c0' := (hb1.cell (p := ⟨w.heap.size, 0, none⟩) (by simp)).trans c0
      have HS := Lib.hid (share_none c p c.rooms _ w1 hd ((HR.out.below hb1 (Nat.le_refl _)).mono hb1.size) o2)
      have HD := Lib.hid (And.intro hb1 hd)
      clear hb1 hd c0
      go_wp2_with (go_at_call 115; refine HS.out.mono ?_; rw [HT2]; rintro e w2 ⟨s, g, nv, rfl, h1, h2, h3⟩; have H1 := Lib.hid h2; clear h1 h2)
      go_ret2
      refine ⟨_, rfl, ints_nil _ _, HB.out.trans ((HD.out.1.mono (by simp)).trans (H1.out.mono ?_))⟩
      exact Nat.le_trans (by simp) HD.out.1.size
    · have e1 : clashErr c = 0 := by unfold clashErr; rw [if_pos q, ht]; rfl
      have e2 : clashV c = natsI (members (fitX c).short) := by unfold clashV; rw [e1]; rfl
      rw [e1, e2]
      have HT2 := ht
      unfold fitX at HT2
      have HS6 := Lib.hid (HS64.out q ht)
      unfold fitX at HS6
      clear HC q ht e1 e2
      go_enter Try.func46, Try.ntmps46
      go_wp2_with fail
      refine HCK.out.mono ?_
      rintro e w1 ⟨p, rfl, hb1, hd⟩
      have c0' := (hb1.cell (p := ⟨w.heap.size, 0, none⟩) (by simp)).trans c0
      have HS := Lib.hid (share_none c p c.rooms _ w1 hd ((HR.out.below hb1 (Nat.le_refl _)).mono hb1.size) o2)
      have HD := Lib.hid (And.intro hb1 hd)
      clear hb1 hd c0
      go_wp2_with (first | (go_at_call 115; refine HS.out.mono ?_; rw [HT2]; rintro e w2 ⟨s, g, nv, rfl, h1, h2, h3⟩; have H1 := Lib.hid h2; clear h1 h2) | (go_at_call 94; refine (list_any _ HS6.out _).mono ?_; rintro e w3 ⟨v, rfl, hv, hb3⟩; have H3 := Lib.hid (And.intro hv hb3); clear hv hb3))
      go_ret2
      have h1 := HB.out.trans (HD.out.1.mono (by simp))
      have h2 := h1.trans (H1.out.mono h1.size)
      exact ⟨v, rfl, H3.out.1, h2.trans (H3.out.2.mono h2.size)⟩
  · have HCK := Lib.hid (opened_bad c _ _ _ _ _ HC.out q)
    have e1 : clashErr c = checkC c := by unfold clashErr; rw [if_neg q]
    have e2 : clashV c = [] := by unfold clashV; rw [e1, if_neg q]
    rw [e1, e2]
    have hk1 : (checkC c == 0) = false := by simpa using q
    have hk2 : (checkC c != 0) = true := by simp [bne, hk1]
    clear q e1 e2 HC c0
    go_enter Try.func46, Try.ntmps46
    go_wp2_with fail
    refine HCK.out.mono ?_
    rintro e w1 ⟨rfl, hb1⟩
    go_wp2_with fail
    go_ret2
    exact ⟨_, rfl, ints_nil _ _, HB.out.trans (hb1.mono (by simp))⟩
end Go.Proofs.Ytnhifinfjfpoiaa

namespace Go.Proofs.Ytnhifinfjfpoiaa
open Go.RowKit

theorem checkC_not7 (c : Col) : checkC c ≠ 7 := by
  unfold checkC
  repeat' split
  all_goals decide
theorem fit_7 {c : Col} (h : fitErr c = 7) : checkC c = 0 ∧ (fitX c).torn = true := by
  unfold fitErr at h
  by_cases q : checkC c = 0
  · rw [if_pos q] at h
    cases ht : (fitX c).torn
    · rw [ht] at h; simp at h
    · exact ⟨q, rfl⟩
  · rw [if_neg q] at h; exact absurd h (checkC_not7 c)
theorem clash_0 {c : Col} (h : fitErr c = 0) : clashErr c = 1 ∧ clashV c = [] := by
  obtain ⟨q, ht⟩ := fit_parts h
  have e : clashErr c = 1 := by unfold clashErr; rw [if_pos q, ht]; rfl
  exact ⟨e, by unfold clashV; rw [e]; rfl⟩
theorem clash_else {c : Col} (h0 : ¬ fitErr c = 0) (h7 : ¬ fitErr c = 7) : clashErr c = fitErr c ∧ clashV c = [] := by
  unfold fitErr at h0 h7
  by_cases q : checkC c = 0
  · rw [if_pos q] at h0 h7
    cases ht : (fitX c).torn
    · rw [ht] at h0; simp at h0
    · rw [ht] at h7; simp at h7
  · have e : clashErr c = checkC c := by unfold clashErr; rw [if_neg q]
    have e2 : fitErr c = checkC c := by unfold fitErr; rw [if_neg q]
    exact ⟨by rw [e, e2], by unfold clashV; rw [e, if_neg q]⟩

theorem nth_members {l : List Nat} {i : Nat} (h : i < l.length) : nth (natsI l) i = (l[i] : Nat) := by
  rw [nth_eq (by rw [natsI_len]; exact h)]; simp [natsI]
theorem range_filter_inc (p : Nat → Bool) : ∀ n, ∀ i j, (hi : i < j) → (hj : j < ((List.range n).filter p).length) → ((List.range n).filter p)[i] < ((List.range n).filter p)[j] := by
  intro n i j hi hj
  have h := (List.pairwise_lt_range (n := n)).filter p
  exact List.pairwise_iff_getElem.1 h i j (by omega) hj hi
theorem incB_members (m : Nat) : incB (natsI (members m)) = true := by
  unfold incB
  rw [allB_iff, natsI_len]
  intro i hi
  rw [nth_members (by omega), nth_members (by omega)]
  have := range_filter_inc m.testBit 6 i (i + 1) (by omega) (by show i + 1 < (members m).length; omega)
  simp only [decide_eq_true_eq]
  exact_mod_cast this
theorem setTo_mem {l : List Int} (h0 : ∀ i, i < l.length → 0 ≤ nth l i) (h : Nat) : ∀ k, k ≤ l.length → ((setTo l k).testBit h = true ↔ ∃ i, i < k ∧ nth l i = (h : Int)) := by
  intro k hk
  rw [setTo_bit h0 h k hk]
  unfold toldTo
  rw [anyB_ex]
  simp
theorem setTo_members {m : Nat} (hm : m < 64) : setTo (natsI (members m)) (natsI (members m)).length = m := by
  have h0 : ∀ i, i < (natsI (members m)).length → 0 ≤ nth (natsI (members m)) i := fun i hi => by
    rw [nth_members (by rw [natsI_len] at hi; exact hi)]; omega
  have h6 : ∀ i, i < (natsI (members m)).length → (nth (natsI (members m)) i).toNat < 6 := fun i hi => by
    have hi' : i < (members m).length := by rw [natsI_len] at hi; exact hi
    rw [nth_members hi', Int.toNat_natCast]
    exact members_lt m _ (List.getElem_mem hi')
  refine mask_ext (setTo_lt h6 _ (Nat.le_refl _)) hm fun o ho => ?_
  rw [Bool.eq_iff_iff, setTo_mem h0 o _ (Nat.le_refl _)]
  constructor
  · rintro ⟨i, hi, e⟩
    have hi' : i < (members m).length := by rw [natsI_len] at hi; exact hi
    rw [nth_members hi'] at e
    have e' : (members m)[i] = o := by exact_mod_cast e
    have := List.getElem_mem hi'
    rw [e'] at this
    exact (List.mem_filter.1 this).2
  · intro hb
    have hmem : o ∈ members m := List.mem_filter.2 ⟨List.mem_range.2 ho, hb⟩
    obtain ⟨i, hi, e⟩ := List.getElem_of_mem hmem
    exact ⟨i, by rw [natsI_len]; exact hi, by rw [nth_members hi, e]⟩
def lsum (r : Nat → Int) : List Nat → Int
  | [] => 0
  | x :: l => lsum r l + r x
theorem lsum_app (r : Nat → Int) : ∀ (l m : List Nat), lsum r (l ++ m) = lsum r l + lsum r m
  | [], m => by simp [lsum]
  | x :: l, m => by
    have h := lsum_app r l m
    show lsum r (l ++ m) + r x = lsum r l + r x + lsum r m
    omega
theorem lsum_filter (r : Nat → Int) (p : Nat → Bool) : ∀ n, lsum r ((List.range n).filter p) = sumN (fun h => if p h = true then r h else 0) n
  | 0 => rfl
  | n + 1 => by
    rw [List.range_succ, List.filter_append, lsum_app, lsum_filter r p n, sumN_succ]
    congr 1
    cases hp : p n
    · simp [hp, lsum]
    · simp [hp, lsum]
theorem roomTo_take (c : Col) (l : List Nat) : ∀ k, k ≤ l.length → roomTo c (natsI l) k = lsum (nth c.rooms) (l.take k)
  | 0, _ => by simp [roomTo, lsum]
  | k + 1, hk => by
    have e : roomTo c (natsI l) (k + 1) = roomTo c (natsI l) k + nth c.rooms (nth (natsI l) k).toNat := rfl
    rw [e, roomTo_take c l k (by omega), nth_members (by omega), List.take_succ_eq_append_getElem (by omega), lsum_app]
    simp [lsum]
theorem roomTo_members (c : Col) (m : Nat) : roomTo c (natsI (members m)) (natsI (members m)).length = roomsOf (nth c.rooms) m.testBit := by
  rw [natsI_len, roomTo_take c _ _ (Nat.le_refl _), List.take_of_length_le (Nat.le_refl _)]
  exact lsum_filter (nth c.rooms) m.testBit 6
theorem clash_short {c : Col} (h : fitErr c = 7) : clashErr c = 0 ∧ (shortV c (clashV c)).2 = 0 ∧ 1 ≤ (shortV c (clashV c)).1 := by
  obtain ⟨q, ht⟩ := fit_7 h
  have ok := okCol_of q
  have e1 : clashErr c = 0 := by unfold clashErr; rw [if_pos q, ht]; rfl
  have e2 : clashV c = natsI (members (fitX c).short) := by unfold clashV; rw [e1]; rfl
  obtain ⟨hs64, hlt⟩ := (fit_fed ok).torn_short ht
  have hse : shortErr c (clashV c) = 0 := by
    unfold shortErr
    have ha : allHouse c (clashV c) = true := by
      unfold allHouse
      rw [allB_iff, e2, natsI_len]
      intro i hi
      rw [nth_members hi]
      have hm := List.getElem_mem hi
      have := fit_short_in ok _ (List.mem_filter.1 hm).2
      unfold inB; simp; omega
    rw [if_pos q, ha]; rfl
  have hn : 1 ≤ shortN c (clashV c) := by
    unfold shortN
    rw [e2, setTo_members hs64, roomTo_members, ratsTo_is (needs_frm ok.houses.2) hs64 _ (Nat.le_refl _)]
    unfold ratsOf at hlt
    omega
  have hv : shortV c (clashV c) = (shortN c (clashV c), 0) := by
    unfold shortV
    rw [if_pos hse, if_pos (by rw [e2]; exact incB_members _), if_neg (by omega)]
  rw [hv]
  exact ⟨e1, rfl, hn⟩
end Go.Proofs.Ytnhifinfjfpoiaa

namespace Go.Proofs.Ytnhifinfjfpoiaa
open Go.RowKit
set_option linter.unusedVariables false
set_option linter.unusedSimpArgs false

/-- Behind the region: a colony of its own, a list of its own, and a colony of the reference's. -/
def MidP3 (W0 : World) (c : Col) (l : List Int) (s5 s6 s7 : Value) (wx : World) : Prop :=
  MidP W0 c s5 s7 wx ∧ wx.ownsRow W0.heap.size 3 1 s6 l.length (intsV l)
theorem owns_set4 {W : World} {b p t e sz n : Nat} {v x0 x1 x2 x3 : Value} {xs : List Value} (h : W.ownsRow b e sz v n xs) (hp : W.heap[p]? = some (.cells Z4 t (0, 0))) (hne : t ≠ e) : (Go.Proofs.Ytnhifinfjfpoiaa.set4 W p x0 x1 x2 x3).ownsRow b e sz v n xs := by
  obtain ⟨e0, e1, e2, e3⟩ := four_set (x0 := x0) (x1 := x1) (x2 := x2) (x3 := x3) hp
  exact owns_set_ty (owns_set_ty (owns_set_ty (owns_set_ty h hp hne) e0 hne) e1 hne) e2 hne
theorem leaf3_aa {W0 W : World} {c : Col} {l : List Int} {s r t u n r' t' u' n' : Value} (o1 : OwnCol W W0.heap.size r t u n c) (o3 : W.ownsRow W0.heap.size 3 1 s l.length (intsV l)) (o2 : RefCol W W0.heap.size r' t' u' n' c) (hB : Below W0.heap.size W0 W) :
    MidP3 W0 c l (.pointer (some ⟨W.heap.size, 0, none⟩)) s (.pointer (some ⟨W.heap.size + 1, 0, none⟩)) ((W.alloc (.cells #[r, t, u, n] 26)).alloc (.cells #[r', t', u', n'] 32)) := ⟨leaf_aa o1 o2 hB, (o3.alloc _).alloc _⟩
theorem leaf3_aa' {W0 W : World} {c : Col} {l : List Int} {s r t u n r' t' u' n' : Value} (o1 : OwnCol W W0.heap.size r t u n c) (o3 : W.ownsRow W0.heap.size 3 1 s l.length (intsV l)) (o2 : RefCol W W0.heap.size r' t' u' n' c) (hB : Below W0.heap.size W0 W) :
    MidP3 W0 c l (.pointer (some ⟨W.heap.size + 1, 0, none⟩)) s (.pointer (some ⟨W.heap.size, 0, none⟩)) ((W.alloc (.cells #[r', t', u', n'] 32)).alloc (.cells #[r, t, u, n] 26)) := ⟨leaf_aa' o1 o2 hB, (o3.alloc _).alloc _⟩
theorem leaf3_ba {W0 W : World} {c : Col} {l : List Int} {p : Nat} {s r t u n r' t' u' n' : Value} (o1 : OwnCol W W0.heap.size r t u n c) (o3 : W.ownsRow W0.heap.size 3 1 s l.length (intsV l)) (o2 : RefCol W W0.heap.size r' t' u' n' c) (hB : Below W0.heap.size W0 W) (hp : W.heap[p]? = some (.cells Z4 26 (0, 0))) (hp0 : W0.heap.size ≤ p) :
    MidP3 W0 c l (.pointer (some ⟨p, 0, none⟩)) s (.pointer (some ⟨W.heap.size, 0, none⟩)) (((((W.setCell ⟨p, 0, none⟩ r).setCell ⟨p, 1, none⟩ t).setCell ⟨p, 2, none⟩ u).setCell ⟨p, 3, none⟩ n).alloc (.cells #[r', t', u', n'] 32)) := ⟨leaf_ba o1 o2 hB hp hp0, (owns_set4 o3 hp (by decide)).alloc _⟩
theorem leaf3_ab {W0 W : World} {c : Col} {l : List Int} {q : Nat} {s r t u n r' t' u' n' : Value} (o1 : OwnCol W W0.heap.size r t u n c) (o3 : W.ownsRow W0.heap.size 3 1 s l.length (intsV l)) (o2 : RefCol W W0.heap.size r' t' u' n' c) (hB : Below W0.heap.size W0 W) (hp : W.heap[q]? = some (.cells Z4 32 (0, 0))) (hp0 : W0.heap.size ≤ q) :
    MidP3 W0 c l (.pointer (some ⟨W.heap.size, 0, none⟩)) s (.pointer (some ⟨q, 0, none⟩)) (((((W.setCell ⟨q, 0, none⟩ r').setCell ⟨q, 1, none⟩ t').setCell ⟨q, 2, none⟩ u').setCell ⟨q, 3, none⟩ n').alloc (.cells #[r, t, u, n] 26)) := ⟨leaf_ab o1 o2 hB hp hp0, (owns_set4 o3 hp (by decide)).alloc _⟩
theorem leaf3_bb {W0 W : World} {c : Col} {l : List Int} {p q : Nat} {s r t u n r' t' u' n' : Value} (o1 : OwnCol W W0.heap.size r t u n c) (o3 : W.ownsRow W0.heap.size 3 1 s l.length (intsV l)) (o2 : RefCol W W0.heap.size r' t' u' n' c) (hB : Below W0.heap.size W0 W) (hp : W.heap[p]? = some (.cells Z4 26 (0, 0))) (hp0 : W0.heap.size ≤ p) (hq : W.heap[q]? = some (.cells Z4 32 (0, 0))) (hq0 : W0.heap.size ≤ q) :
    MidP3 W0 c l (.pointer (some ⟨p, 0, none⟩)) s (.pointer (some ⟨q, 0, none⟩)) ((((((((W.setCell ⟨p, 0, none⟩ r).setCell ⟨p, 1, none⟩ t).setCell ⟨p, 2, none⟩ u).setCell ⟨p, 3, none⟩ n).setCell ⟨q, 0, none⟩ r').setCell ⟨q, 1, none⟩ t').setCell ⟨q, 2, none⟩ u').setCell ⟨q, 3, none⟩ n') := by
  have hne : p ≠ q := by rintro rfl; rw [hp] at hq; cases hq
  have hq' : (Go.Proofs.Ytnhifinfjfpoiaa.set4 W p r t u n).heap[q]? = some (.cells Z4 32 (0, 0)) := (set4_other hne.symm).trans hq
  exact ⟨leaf_bb o1 o2 hB hp hp0 hq hq0, owns_set4 (owns_set4 o3 hp (by decide)) hq' (by decide)⟩

end Go.Proofs.Ytnhifinfjfpoiaa

namespace Go.Proofs.Ytnhifinfjfpoiaa
open Go.RowKit Go.ChangeShapes Go.WideShapes Go.ChangeAt Go.Deep Go.Joins
set_option linter.unusedVariables false
variable {H : Type} {enc : TypeId × Value → H}

set_option maxRecDepth 100000 in
theorem open_list {W : World} {base : Nat} {r : Reach} {v : Value} {d : DataW H} {p : List MemPlace} (hv : Value.okWide Try.prog W r base 22 v) (h : DataW.Trod enc Try.prog W 0 (fun _ => true) true 22 v d p) (hw : ∀ m ∈ d.weights Try.prog 22, m ≤ reachBytes) :
    ∃ xs, IsInts W W.heap.size v xs := by
  obtain ⟨a, len, cap, rfl⟩ := okWide_slice Try.underlying22 hv
  obtain ⟨fuel, hf⟩ := h
  exact open_nums (y := (d, p)) (by simpa [Value.cells] using hf) hw
end Go.Proofs.Ytnhifinfjfpoiaa
