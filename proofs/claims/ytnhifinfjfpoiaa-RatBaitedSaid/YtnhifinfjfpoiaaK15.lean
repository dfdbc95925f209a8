/- Plain law of RatTight: a colony whose rooms get smaller. A colony whose rooms are known one by one, read. Regions that draw their order, where several operations may come up next. Regions that draw their order: an operation that comes up, with its guard settled. From which houses rats can come in the next night, bit by bit. Plain law of RatMore: more room, or a further run, never makes less of what can be. Plain law of RatCounted: what a truth has lies within what is told. What the walks of the outright laws share. -/
import Derived.Test.YtnhifinfjfpoiaaK11
import Derived.Test.YtnhifinfjfpoiaaK13
import Derived.Test.YtnhifinfjfpoiaaK10
import Derived.Test.YtnhifinfjfpoiaaK05
import Derived.Test.YtnhifinfjfpoiaaK04
import Derived.Test.YtnhifinfjfpoiaaK06
import Derived.Test.YtnhifinfjfpoiaaK09
import Derived.Test.YtnhifinfjfpoiaaK01
namespace Go.Proofs.Ytnhifinfjfpoiaa
open Go.RowKit
set_option linter.unusedVariables false

theorem check_of_ok {c : Col} (k : OkCol c) : checkC c = 0 := by
  have h1 := k.houses
  have e1 : badCount1 c = false := by
    have a : inB (c.rooms.length : Int) 1 6 = true := inB_of ⟨by omega, by omega⟩
    have b := k.traps; have d := k.runs; have e := k.nights
    unfold badCount1
    simp [a, b]; omega
  have e2 : badCount2 c = false := by
    unfold badCount2
    rw [allB_true (fun i hi => by unfold okRow; simpa using k.row i hi)]; rfl
  have e3 : badRooms c = false := by
    unfold badRooms
    rw [allB_true (fun i hi => inB_of (k.room i hi))]; rfl
  have e4 : badTraps c = false := by
    unfold badTraps
    rw [allB_true (fun i hi => inB_of (k.trap i (by have := k.traps; omega)))]; rfl
  have e5 : badNights c = false := by
    unfold badNights
    rw [allB_true (fun i hi => allB_true (fun j hj => by
      have hj' : j < c.rooms.length := by have := k.row i hi; omega
      unfold okNight; exact inB_of (k.night i j hi hj')))]; rfl
  have e6 : badRuns c = false := by
    unfold badRuns
    rw [allB_true (fun i hi => by
      have := k.run i hi
      unfold okRun
      rw [inB_of ⟨by omega, by omega⟩, inB_of ⟨by omega, by omega⟩]; rfl)]; rfl
  have e7 : badTwice c = false := by
    unfold badTwice
    rw [allB_true (fun i hi => by
      have := k.differ i hi
      unfold okTwice
      rw [allB_true (fun j hj => by rw [k.once i j hi hj]; rfl)]
      simpa using this)]; rfl
  unfold checkC
  rw [e1, e2, e3, e4, e5, e6, e7]; rfl
theorem fit_or {c : Col} (h : checkC c = 0) : fitErr c = 0 ∨ fitErr c = 7 := by
  unfold fitErr
  rw [if_pos h]
  split
  · exact .inr rfl
  · exact .inl rfl
theorem rooms_check {rooms rooms' traps : List Int} {rs : List (Int × Int)} {N : List (List Int)} (h : checkC ⟨rooms, traps, rs, N⟩ = 0) (hl : rooms'.length = rooms.length) (hb : ∀ i, i < rooms.length → 0 ≤ nth rooms' i ∧ nth rooms' i ≤ 60) : checkC ⟨rooms', traps, rs, N⟩ = 0 := by
  have k := okCol_of h
  have e : (⟨rooms', traps, rs, N⟩ : Col).rooms.length = rooms.length := hl
  refine check_of_ok ⟨by rw [e]; exact k.houses, by rw [e]; exact k.traps, k.runs, k.nights, fun i hi => by rw [e]; exact k.row i hi, fun i hi => hb i (by rw [e] at hi; exact hi), fun i hi => k.trap i (by rw [e] at hi; exact hi), fun i j hi hj => k.night i j hi (by rw [e] at hj; exact hj), fun i hi => by rw [e]; exact k.run i hi, k.differ, k.once⟩
/-- How much room houses that are told in increasing order have. -/
theorem roomTo_set {c : Col} {l : List Int} (h6 : ∀ i, i < l.length → 0 ≤ nth l i ∧ nth l i < 6) (hinc : ∀ i j, i < j → j < l.length → nth l i < nth l j) : ∀ k, k ≤ l.length → roomTo c l k = roomsOf (nth c.rooms) (setTo l k).testBit
  | 0, _ => by
    have e : roomsOf (nth c.rooms) (setTo l 0).testBit = sumN (fun _ => 0) 6 := sumN_congr fun i hi => by simp [setTo]
    rw [e, sumN_zero]; rfl
  | k + 1, hk => by
    have h0 : ∀ i, i < l.length → 0 ≤ nth l i := fun i hi => (h6 i hi).1
    have hb := h6 k (by omega)
    have e : roomTo c l (k + 1) = roomTo c l k + nth c.rooms (nth l k).toNat := rfl
    rw [e, roomTo_set h6 hinc k (by omega)]
    unfold roomsOf
    obtain ⟨q, hq⟩ : ∃ q : Nat, nth l k = q := ⟨(nth l k).toNat, by omega⟩
    have hq6 : q < 6 := by omega
    have hnot : (setTo l k).testBit q = false := by
      cases hc : (setTo l k).testBit q
      · rfl
      · obtain ⟨i, hi, e⟩ := (setTo_mem h0 q k (by omega)).1 hc
        have := hinc i k hi (by omega)
        omega
    have key : ∀ h, (setTo l (k + 1)).testBit h = ((setTo l k).testBit h || decide (h = q)) := fun h => by
      rw [Bool.eq_iff_iff, setTo_mem h0 h (k + 1) hk, Bool.or_eq_true, setTo_mem h0 h k (by omega), decide_eq_true_iff]
      constructor
      · rintro ⟨i, hi, e⟩
        by_cases c : i = k
        · subst c; right; omega
        · left; exact ⟨i, by omega, e⟩
      · rintro (⟨i, hi, e⟩ | e)
        · exact ⟨i, by omega, e⟩
        · exact ⟨k, by omega, by omega⟩
    rw [hq, Int.toNat_natCast]
    have e2 : sumN (fun h => if (setTo l (k + 1)).testBit h = true then nth c.rooms h else 0) 6 = sumN (fun j => if j = q then nth c.rooms q else (fun h => if (setTo l k).testBit h = true then nth c.rooms h else 0) j) 6 := sumN_congr fun i hi => by
      rw [key i]
      by_cases c : i = q
      · subst c; simp
      · simp [c]
    rw [e2, sumN_set, if_pos hq6, hnot]
    simp
theorem inc_all {l : List Int} (h : incB l = true) : ∀ i j, i < j → j < l.length → nth l i < nth l j := by
  unfold incB at h
  rw [allB_iff] at h
  intro i j hij
  induction j with
  | zero => omega
  | succ j ih =>
    intro hj
    have h1 := h j (by omega)
    simp only [decide_eq_true_eq] at h1
    by_cases e : i = j
    · subst e; exact h1
    · have := ih (by omega) (by omega); omega
/-- Of a colony that does not clash no houses are short. -/
theorem short_none {c : Col} (hk : fitErr c = 0) {l : List Int} (hl : ∀ i, i < l.length → 0 ≤ nth l i ∧ nth l i < c.rooms.length) (hinc : incB l = true) : (shortV c l).2 = 8 := by
  obtain ⟨q, _⟩ := fit_parts hk
  have ok := okCol_of q
  have h6 : ∀ i, i < l.length → 0 ≤ nth l i ∧ nth l i < 6 := fun i hi => by have := hl i hi; have := ok.houses.2; omega
  have hse : shortErr c l = 0 := by
    unfold shortErr
    have ha : allHouse c l = true := by
      unfold allHouse
      rw [allB_iff]
      intro i hi
      have := hl i hi
      exact inB_of ⟨by omega, by omega⟩
    rw [if_pos q, ha]; rfl
  have hm : setTo l l.length < 64 := setTo_lt (fun i hi => by have := h6 i hi; omega) _ (Nat.le_refl _)
  have hn : shortN c l ≤ 0 := by
    unfold shortN
    rw [roomTo_set h6 (inc_all hinc) _ (Nat.le_refl _), ratsTo_is (needs_frm ok.houses.2) hm _ (Nat.le_refl _)]
    have h1 := fit_err ok q
    rw [hk] at h1
    have h2 : ¬ cutC (needsC c) (nth c.rooms) < totC c := fun h => by rw [if_pos h] at h1; cases h1
    have h3 := cut_le (needsC c) (nth c.rooms) (setTo l l.length).testBit
    have h4 := all_split (needsC c) (rats (needsC c)) (setTo l l.length).testBit
    have h5 : totC c = sumN (rats (needsC c)) (needsC c).length := rfl
    unfold elsewhere at h3
    omega
  unfold shortV
  rw [if_pos hse, if_pos hinc, if_pos hn]
/-- Houses are short by no more than what was caught in all nights. -/
theorem tot_sum (c : Col) : totC c = sumN (fun i => sumN (nth (nthR c.nights i)) c.rooms.length) c.nights.length := by
  have row : ∀ i, sumN (rats (needRow c i)) (needRow c i).length = sumN (nth (nthR c.nights i)) c.rooms.length := fun i => by
    have hl : (needRow c i).length = c.rooms.length := by unfold needRow; simp
    rw [hl]
    exact sumN_congr fun j hj => by unfold rats needRow nthP; simp [hj]
  have app : ∀ (a b : List (Int × Int)), sumN (rats (a ++ b)) (a ++ b).length = sumN (rats a) a.length + sumN (rats b) b.length := fun a b => by
    rw [List.length_append, sumN_append]
    congr 1
    · exact sumN_congr fun i hi => by unfold rats nthP; rw [List.getD_eq_getElem?_getD, List.getD_eq_getElem?_getD, List.getElem?_append_left hi]
    · exact sumN_congr fun i hi => by unfold rats nthP; rw [List.getD_eq_getElem?_getD, List.getD_eq_getElem?_getD, List.getElem?_append_right (by omega), Nat.add_sub_cancel_left]
  have key : ∀ k, sumN (rats (needsUp c k)) (needsUp c k).length = sumN (fun i => sumN (nth (nthR c.nights i)) c.rooms.length) k := by
    intro k
    induction k with
    | zero => rfl
    | succ k ih => rw [needsUp_succ, app, ih, row, sumN_succ]
  exact key _
theorem clash_few {c : Col} (h : fitErr c = 7) : (shortV c (clashV c)).1 ≤ totC c := by
  obtain ⟨q, ht⟩ := fit_7 h
  have ok := okCol_of q
  have e1 : clashErr c = 0 := by unfold clashErr; rw [if_pos q, ht]; rfl
  have e2 : clashV c = natsI (members (fitX c).short) := by unfold clashV; rw [e1]; rfl
  obtain ⟨hs64, _⟩ := (fit_fed ok).torn_short ht
  have hnn := needs_nonneg ok
  have h1 : ratsTo (needsC c) (setTo (clashV c) (clashV c).length) (needsC c).length ≤ totC c := by
    rw [e2, setTo_members hs64, ratsTo_is (needs_frm ok.houses.2) hs64 _ (Nat.le_refl _)]
    refine sumN_le fun o ho => ?_
    split
    · exact Int.le_refl _
    · exact hnn o ho
  have h2 : 0 ≤ roomTo c (clashV c) (clashV c).length := by
    rw [e2, roomTo_members]
    refine sumN_nonneg fun i hi => ?_
    split
    · exact (ok.rooms6 i hi).1
    · exact Int.le_refl _
  have h3 : 0 ≤ totC c := sumN_nonneg hnn
  unfold shortV
  split
  · split
    · split
      · exact h3
      · show shortN c (clashV c) ≤ _
        unfold shortN; omega
    · exact h3
  · exact h3
end Go.Proofs.Ytnhifinfjfpoiaa

namespace Go.Proofs.Ytnhifinfjfpoiaa
open Go.RowKit
set_option linter.unusedVariables false

theorem own_read {W : World} {t u nn : Value} {gr n cr Bt Bu Bn : Nat} {f : Nat → Int} {traps : List Int} {rs : List (Int × Int)} {nb : Nat → Nat} {N : List (List Int)} (hck : checkC ⟨(List.range n).map f, traps, rs, N⟩ = 0) (hcr : n ≤ cr)
    (p2 : (pInt gr n f).told W) (p3 : (pRow Bt 3 1 n t (intsV traps)).told W) (p4 : (pRow Bu 63 2 rs.length u (pairsV rs)).told W) (p5 : (pRowsI Bn n nn nb N).told W) : ColAt W W.heap.size (.slice (some ⟨gr, 0, none⟩) n cr) t u nn ⟨(List.range n).map f, traps, rs, N⟩ := by
  have k := okCol_of hck
  have hn : n ≤ 6 := by have := k.houses.2; simpa using this
  have ht : traps.length = n := by have := k.traps; simpa using this
  refine ⟨?_, ?_, ?_, ?_⟩
  · refine IntBlk.ints p2 hcr (by omega) (fun j hj => ?_)
    have this : 0 ≤ nth ((List.range n).map f) j ∧ nth ((List.range n).map f) j ≤ 60 := k.room j (by simpa using hj)
    rw [nth_ofRange f hj] at this
    show I64 (f j)
    unfold I64; omega
  · show IsInts W W.heap.size t traps
    have p3' : W.ownsRow Bt 3 1 t traps.length (intsV traps) := by rw [ht]; exact p3
    refine nums_of_owns p3' (fun x hx => ?_) (by omega)
    obtain ⟨i, hi, rfl⟩ := List.mem_iff_getElem.1 hx
    have := k.trap i (by simp; omega)
    have e : nth (⟨(List.range n).map f, traps, rs, N⟩ : Col).traps i = traps[i] := nth_eq hi
    rw [e] at this
    unfold I64; omega
  · show IsPairs W W.heap.size u rs
    refine pairs_of_owns p4 (fun q hq => ?_) (by have := k.runs; simp at this; omega)
    obtain ⟨i, hi, rfl⟩ := List.mem_iff_getElem.1 hq
    have := k.run i hi
    have e : nthP (⟨(List.range n).map f, traps, rs, N⟩ : Col).runs i = rs[i] := nthP_eq hi
    have e2 : (⟨(List.range n).map f, traps, rs, N⟩ : Col).rooms.length = n := by simp
    rw [e, e2] at this
    unfold I64; omega
  · show IsRows W W.heap.size nn N
    refine rows_of_part p5.1 (by omega) (by have := k.nights; simp at this; omega) (fun i j hi hj => ?_)
    have a := k.night i j hi (by simpa using hj)
    have b := k.trap j (by simpa using hj)
    have e : nth (nthR (⟨(List.range n).map f, traps, rs, N⟩ : Col).nights i) j = nth (nthR N i) j := rfl
    rw [e] at a
    unfold I64; omega
end Go.Proofs.Ytnhifinfjfpoiaa

namespace Go.Proofs.Ytnhifinfjfpoiaa
open Go.RowKit
section
variable {P : Program} {ops : Array Oper} {Q : Exit → Act → World → Prop} {md : Region.Mode} {st : List Nat} {C : World → Prop}
theorem pickL {i : Nat} {oi : Oper} {n : Nat} {l : Array Bool} {a : Act} {w : World} (hi : ops[i]? = some oi)
    (h : ∀ K' : Act → World → Prop, Shut (∀ a w, Till st C (l.setIfInBounds i true) w → anyL P md ops Q (Till st C) n (l.setIfInBounds i true) a w → K' a w) → if Region.wanted oi (yielded ops a.tmps) = true then Oper.wp P oi a w K' Q else K' (a.put oi.dst undef) w) :
    wpOp P ops Q i (fun a' w' => Till st C (l.setIfInBounds i true) w' ∧ anyL P md ops Q (Till st C) n (l.setIfInBounds i true) a' w') a w :=
  wpOp_step hi (fun K' hK => h K' (fun a w hS hW => hK a w ⟨hS, hW⟩))
/-- One of several comes up next. -/
theorem someL {n : Nat} {l : Array Bool} {a : Act} {w : World} {rs : List Nat} (hr : Region.ready md ops l = rs) (hne : rs ≠ [])
    (h : ∀ i ∈ rs, wpOp P ops Q i (fun a' w' => Till st C (l.setIfInBounds i true) w' ∧ anyL P md ops Q (Till st C) n (l.setIfInBounds i true) a' w') a w) :
    anyL P md ops Q (Till st C) (n + 1) l a w := anyL_ready hr hne h
theorem all_cons {p : Nat → Prop} {x : Nat} {l : List Nat} (h : p x) (k : ∀ i ∈ l, p i) : ∀ i ∈ x :: l, p i := fun i hi => by
  rcases List.mem_cons.1 hi with rfl | hi
  · exact h
  · exact k i hi
theorem all_nil {p : Nat → Prop} : ∀ i ∈ ([] : List Nat), p i := fun i hi => by cases hi
end
end Go.Proofs.Ytnhifinfjfpoiaa

namespace Go.Proofs.Ytnhifinfjfpoiaa
open Go.RowKit
section
variable {P : Program} {ops : Array Oper} {Q : Exit → Act → World → Prop} {md : Region.Mode} {st : List Nat} {C : World → Prop}
theorem pickW {i : Nat} {d : Option Nat} {op : Op} {t : TypeId} {p : String} {af : Array Edge} {g : Option (Nat × Bool)} {n : Nat} {l : Array Bool} {a : Act} {w : World} (hi : ops[i]? = some ⟨d, op, t, p, af, g⟩) (hw : Region.wanted ⟨d, op, t, p, af, g⟩ (yielded ops a.tmps) = true)
    (h : ∀ K' : Act → World → Prop, Shut (∀ a w, Till st C (l.setIfInBounds i true) w → anyL P md ops Q (Till st C) n (l.setIfInBounds i true) a w → K' a w) → Oper.wp P ⟨d, op, t, p, af, g⟩ a w K' Q) :
    wpOp P ops Q i (fun a' w' => Till st C (l.setIfInBounds i true) w' ∧ anyL P md ops Q (Till st C) n (l.setIfInBounds i true) a' w') a w :=
  pickL hi (fun K' hK => by rw [if_pos hw]; exact h K' hK)
theorem nextW {i : Nat} {d : Option Nat} {op : Op} {t : TypeId} {p : String} {af : Array Edge} {g : Option (Nat × Bool)} {n : Nat} {l : Array Bool} {a : Act} {w : World} (hi : ops[i]? = some ⟨d, op, t, p, af, g⟩) (hr : Region.ready md ops l = [i]) (hw : Region.wanted ⟨d, op, t, p, af, g⟩ (yielded ops a.tmps) = true)
    (h : ∀ K' : Act → World → Prop, Shut (∀ a w, Till st C (l.setIfInBounds i true) w → anyL P md ops Q (Till st C) n (l.setIfInBounds i true) a w → K' a w) → Oper.wp P ⟨d, op, t, p, af, g⟩ a w K' Q) :
    anyL P md ops Q (Till st C) (n + 1) l a w :=
  nextL hi hr (fun K' hK => by rw [if_pos hw]; exact h K' hK)
/-- Number i, which its guard leaves out. -/
theorem skipL {i d : Nat} {oi : Oper} {n : Nat} {l : Array Bool} {a : Act} {w : World} (hi : ops[i]? = some oi) (hd : oi.dst = some d)
    (hs : Region.noSelect ops = true) (hf : Region.free md ops l i = true) (hr : (Region.ready md ops l).contains i = true) (hist : st.contains i = false)
    (hQ : ∀ c d' v' a w, Q (.panic c) (a.put d' v') w → Q (.panic c) a w) (hw : Region.wanted oi (yielded ops a.tmps) = false) (hT : Till st C l w)
    (h : anyL P md ops Q (Till st C) n (l.setIfInBounds i true) (a.put (some d) undef) w) : anyL P md ops Q (Till st C) (n + 1) l a w :=
  anyL_first0 hi (Region.noSelect_spec hs) (fun c a w => hQ c _ _ a w) (by simpa using hist) n l a w (Region.free_spec hi hf) (by simpa using hr) hT (.inr ⟨hw, rfl⟩) (by rw [hd]; exact h)
end
end Go.Proofs.Ytnhifinfjfpoiaa

namespace Go.Proofs.Ytnhifinfjfpoiaa
open Go.RowKit
set_option linter.unusedVariables false

theorem needAcc_bit (c : Col) (f : Nat) (l : List Nat) : (needAcc c l).testBit f = true ↔ ∃ o, o ∈ l ∧ (leftC c o).testBit f = true := by
  have key : ∀ (l : List Nat) (a : Nat), (l.foldl (fun acc o => orN acc (leftC c o)) a).testBit f = true ↔ a.testBit f = true ∨ ∃ o, o ∈ l ∧ (leftC c o).testBit f = true := by
    intro l
    induction l with
    | nil => intro a; simp
    | cons x l ih =>
      intro a
      rw [List.foldl_cons, ih, orN_bit, Bool.or_eq_true]
      constructor
      · rintro ((h | h) | ⟨o, h1, h2⟩)
        · exact .inl h
        · exact .inr ⟨x, by simp, h⟩
        · exact .inr ⟨o, by simp [h1], h2⟩
      · rintro (h | ⟨o, h1, h2⟩)
        · exact .inl (.inl h)
        · rcases List.mem_cons.1 h1 with rfl | h1
          · exact .inl (.inr h2)
          · exact .inr ⟨o, h1, h2⟩
  unfold needAcc
  rw [key]; simp
end Go.Proofs.Ytnhifinfjfpoiaa

namespace Go.Proofs.Ytnhifinfjfpoiaa
open Go.RowKit
set_option linter.unusedVariables false

/-- Of two sets of houses one holds the other. -/
def SubM (a b : Nat) : Prop := ∀ o, a.testBit o = true → b.testBit o = true
theorem SubM.subB {a b : Nat} (h : SubM a b) {V : Nat → Bool} (hb : subB b V = true) : subB a V = true := by
  unfold Go.Proofs.Ytnhifinfjfpoiaa.subB at hb ⊢
  rw [allB_iff] at hb ⊢
  intro o ho
  have := hb o ho
  cases ha : a.testBit o
  · simp
  · rw [h o ha] at this; simpa using this
/-- The same needs, but from more houses, and no less room: the cut is no less. -/
theorem cut_mono {nl nl' : List (Int × Int)} {r r' : Nat → Int} (hlen : nl'.length = nl.length) (hr : ∀ h, h < 6 → r h ≤ r' h) (hn : ∀ k, k < nl.length → rats nl' k = rats nl k ∧ 0 ≤ rats nl k) (hf : ∀ k, k < nl.length → SubM (frm nl k) (frm nl' k)) : cutC nl r ≤ cutC nl' r' := by
  obtain ⟨m, _, e⟩ := cut_mem nl' r'
  rw [e]
  refine Int.le_trans (cut_le nl r m.testBit) ?_
  have h1 : roomsOf r m.testBit ≤ roomsOf r' m.testBit := sumN_le fun h hh => by
    show (if m.testBit h = true then r h else 0) ≤ (if m.testBit h = true then r' h else 0)
    split
    · exact hr h hh
    · exact Int.le_refl _
  have h2 : elsewhere nl m.testBit ≤ elsewhere nl' m.testBit := by
    unfold elsewhere
    rw [hlen]
    refine sumN_le fun o ho => ?_
    have a := hn o ho
    by_cases hb : subB (frm nl' o) m.testBit = true
    · rw [if_pos hb, if_pos ((hf o ho).subB hb)]; exact Int.le_refl _
    · rw [if_neg hb, a.1]
      split
      · exact a.2
      · exact Int.le_refl _
  omega
/-- Of two colonies with the same nights one has no less room, and all runs of the other. -/
structure MoreCol (c d : Col) : Prop where
  len : d.rooms.length = c.rooms.length
  traps : d.traps = c.traps
  nights : d.nights = c.nights
  room : ∀ h, h < 6 → nth c.rooms h ≤ nth d.rooms h
  goes : ∀ a b, goesB c a b = true → goesB d a b = true
theorem MoreCol.full {c d : Col} (I : MoreCol c d) (h k : Nat) : fullB d h k = fullB c h k := by unfold fullB; rw [I.nights, I.traps]
theorem MoreCol.come {c d : Col} (I : MoreCol c d) (f : Nat) : ∀ k h, comeB c f k h = true → comeB d f k h = true
  | 0, h, e => by unfold comeB at e ⊢; exact e
  | k + 1, h, e => by
    unfold comeB at e ⊢
    rw [anyB_ex] at e ⊢
    obtain ⟨a, ha, h1⟩ := e
    rw [Bool.and_eq_true, Bool.and_eq_true] at h1
    refine ⟨a, by rw [I.len]; exact ha, ?_⟩
    rw [Bool.and_eq_true, Bool.and_eq_true, I.full]
    exact ⟨⟨I.come f k a h1.1.1, h1.1.2⟩, I.goes _ _ h1.2⟩
theorem MoreCol.orgs {c d : Col} (I : MoreCol c d) (ok : OkCol c) (ok' : OkCol d) {k h : Nat} (hh : h < c.rooms.length) (hk : k ≤ c.nights.length) : SubM (org c k h) (org d k h) := fun o ho => by
  have h1 := org_only ok k h o ho
  rw [org_come ok k h o hh h1 hk] at ho
  rw [org_come ok' k h o (by rw [I.len]; exact hh) (by rw [I.len]; exact h1) (by rw [I.nights]; exact hk)]
  exact I.come o k h ho
theorem MoreCol.lefts {c d : Col} (I : MoreCol c d) (ok : OkCol c) (ok' : OkCol d) (h : Nat) : SubM (leftC c h) (leftC d h) := fun o ho => by
  obtain ⟨h1, h2⟩ := left_in ok ho
  rw [left_bit ok h1 h2] at ho
  rw [left_bit ok' (by rw [I.len]; exact h1) (by rw [I.len]; exact h2)]
  unfold stayB at ho ⊢
  rw [I.nights]
  split at ho
  · rw [if_pos (by assumption)]; exact I.come _ _ _ ho
  · rw [if_neg (by assumption), I.full]
    rw [Bool.and_eq_true] at ho ⊢
    exact ⟨I.come _ _ _ ho.1, ho.2⟩
theorem MoreCol.union {c d : Col} (I : MoreCol c d) (ok : OkCol c) (ok' : OkCol d) : SubM (unionN (leftC c)) (unionN (leftC d)) := fun o ho => by
  unfold unionN at ho ⊢
  rw [union_bit] at ho ⊢
  obtain ⟨h, hh, e⟩ := ho
  exact ⟨h, hh, I.lefts ok ok' h o e⟩
theorem MoreCol.needF {c d : Col} (I : MoreCol c d) (ok : OkCol c) (ok' : OkCol d) {h : Nat} (hh : h < c.rooms.length) : SubM (needFrom c h) (needFrom d h) := fun o ho => by
  unfold needFrom at ho ⊢
  rw [needAcc_bit] at ho ⊢
  obtain ⟨a, h1, h2⟩ := ho
  obtain ⟨q1, q2⟩ := mem_members.1 h1
  refine ⟨a, mem_members.2 ⟨q1, ?_⟩, I.lefts ok ok' a o h2⟩
  rw [nearC_bit hh q1] at q2
  rw [nearC_bit (by rw [I.len]; exact hh) q1]
  exact I.goes _ _ q2
theorem MoreCol.needs {c d : Col} (I : MoreCol c d) (ok : OkCol c) (ok' : OkCol d) : (needsC d).length = (needsC c).length ∧ ∀ k, k < (needsC c).length → rats (needsC d) k = rats (needsC c) k ∧ SubM (frm (needsC c) k) (frm (needsC d) k) := by
  have l1 : (needsC d).length = (needsC c).length := by unfold needsC; rw [needsUp_len, needsUp_len, I.nights, I.len]
  refine ⟨l1, fun k hk => ?_⟩
  have hl : (needsC c).length = c.nights.length * c.rooms.length := by unfold needsC; rw [needsUp_len]
  rw [hl] at hk
  have hp : 0 < c.rooms.length := ok.houses.1
  obtain ⟨i, j, hi, hj, rfl⟩ : ∃ i j, i < c.nights.length ∧ j < c.rooms.length ∧ k = i * c.rooms.length + j :=
    ⟨k / c.rooms.length, k % c.rooms.length, (Nat.div_lt_iff_lt_mul hp).2 hk, Nat.mod_lt _ hp, by rw [Nat.mul_comm]; exact (Nat.div_add_mod k c.rooms.length).symm⟩
  have e1 : nthP (needsC c) (i * c.rooms.length + j) = (nth (nthR c.nights i) j, (org c i j : Int)) := needs_at c (n := c.nights.length) hi hj
  have e2 : nthP (needsC d) (i * c.rooms.length + j) = (nth (nthR c.nights i) j, (org d i j : Int)) := by
    have := needs_at d (i := i) (j := j) (n := d.nights.length) (by rw [I.nights]; exact hi) (by rw [I.len]; exact hj)
    rw [I.len] at this
    rw [← I.nights]
    exact this
  unfold rats frm
  rw [e1, e2]
  refine ⟨rfl, ?_⟩
  show SubM ((org c i j : Int)).toNat ((org d i j : Int)).toNat
  rw [Int.toNat_natCast, Int.toNat_natCast]
  exact I.orgs ok ok' hj (by omega)
theorem MoreCol.tot {c d : Col} (I : MoreCol c d) (ok : OkCol c) (ok' : OkCol d) : totC d = totC c := by
  obtain ⟨h1, h2⟩ := I.needs ok ok'
  unfold totC
  rw [h1]
  exact sumN_congr fun k hk => (h2 k hk).1
theorem MoreCol.fit {c d : Col} (I : MoreCol c d) (hk : fitErr c = 0) (hd : checkC d = 0) : fitErr d = 0 := by
  obtain ⟨q, _⟩ := fit_parts hk
  have ok := okCol_of q
  have ok' := okCol_of hd
  obtain ⟨h1, h2⟩ := I.needs ok ok'
  have a := fit_err ok q
  rw [hk] at a
  have b : ¬ cutC (needsC c) (nth c.rooms) < totC c := fun h => by rw [if_pos h] at a; cases a
  have m := cut_mono h1 I.room (fun k hk => ⟨(h2 k hk).1, needs_nonneg ok k hk⟩) (fun k hk => (h2 k hk).2)
  rw [fit_err ok' hd, I.tot ok ok', if_neg (by omega)]
theorem MoreCol.more {c d : Col} (I : MoreCol c d) (ok : OkCol c) (ok' : OkCol d) {f g : Nat} (hs : SubM f g) : moreC c f ≤ moreC d g := by
  obtain ⟨h1, h2⟩ := I.needs ok ok'
  unfold moreC
  have ap : ∀ (nl : List (Int × Int)) (q : Int × Int) (k : Nat), k < nl.length → nthP (nl ++ [q]) k = nthP nl k := fun nl q k hk => nthP_ahead hk
  refine cut_mono (by simp [h1]) I.room (fun k hk => ?_) (fun k hk => ?_)
  · by_cases e : k < (needsC c).length
    · unfold rats
      rw [ap _ _ k e, ap _ _ k (by omega)]
      exact ⟨(h2 k e).1, needs_nonneg ok k e⟩
    · obtain rfl : k = (needsC c).length := by simp at hk; omega
      unfold rats
      rw [nthP_new]
      have := nthP_new (needsC d) ((361, (g : Int)))
      rw [h1] at this
      rw [this]
      exact ⟨rfl, show (0 : Int) ≤ 361 by decide⟩
  · by_cases e : k < (needsC c).length
    · unfold frm
      rw [ap _ _ k e, ap _ _ k (by omega)]
      exact (h2 k e).2
    · obtain rfl : k = (needsC c).length := by simp at hk; omega
      unfold frm
      rw [nthP_new]
      have := nthP_new (needsC d) ((361, (g : Int)))
      rw [h1] at this
      rw [this]
      show SubM ((f : Int)).toNat ((g : Int)).toNat
      rw [Int.toNat_natCast, Int.toNat_natCast]
      exact hs
/-- What RatMore asks of a colony with more. -/
theorem MoreCol.law {c d : Col} (I : MoreCol c d) (hk : fitErr c = 0) (hd : checkC d = 0) :
    fitErr d = 0 ∧ (ratsC d).1 = (ratsC c).1 ∧ (ratsC c).2 ≤ (ratsC d).2 ∧ (afterC d).length = (afterC c).length ∧ (needC d).length = (needC c).length ∧
    ∀ h, h < c.rooms.length → nth (afterC c) h ≤ nth (afterC d) h ∧ nth (needC c) h ≤ nth (needC d) h := by
  have ok := okCol_of (fit_parts hk).1
  have ok' := okCol_of hd
  have hf := I.fit hk hd
  have e1 := fit_all hk
  have e2 := fit_all hf
  rw [I.tot ok ok'] at e2
  refine ⟨hf, ?_, ?_, ?_, ?_, fun h hh => ?_⟩
  · rw [rats_more ok, rats_more ok', e1, e2]
  · rw [rats_more ok, rats_more ok']; exact I.more ok ok' (I.union ok ok')
  · unfold afterC; rw [afterTo_len, afterTo_len, I.len]
  · unfold needC; rw [needTo_len, needTo_len, I.len]
  · have a1 : nth (afterC c) h = mostC c (fitX c).all (leftC c h) := by unfold afterC afterTo nth; simp [hh]
    have a2 : nth (afterC d) h = mostC d (fitX d).all (leftC d h) := by unfold afterC afterTo nth; rw [I.len]; simp [hh]
    have b1 : nth (needC c) h = mostC c (fitX c).all (needFrom c h) := by unfold needC needTo nth; simp [hh]
    have b2 : nth (needC d) h = mostC d (fitX d).all (needFrom d h) := by unfold needC needTo nth; rw [I.len]; simp [hh]
    rw [a1, a2, b1, b2, most_more ok, most_more ok', most_more ok, most_more ok', e1, e2]
    have m1 := I.more ok ok' (I.lefts ok ok' h)
    have m2 := I.more ok ok' (I.needF ok ok' hh)
    omega
/-- More room in one house. -/
theorem moreCol_room {rooms rooms' traps : List Int} {rs : List (Int × Int)} {N : List (List Int)} (hl : rooms'.length = rooms.length) (hr : ∀ h, h < rooms.length → nth rooms h ≤ nth rooms' h) : MoreCol ⟨rooms, traps, rs, N⟩ ⟨rooms', traps, rs, N⟩ :=
  ⟨hl, rfl, rfl, fun h hh => by
    by_cases e : h < rooms.length
    · exact hr h e
    · show nth rooms h ≤ nth rooms' h
      have a : nth rooms h = 0 := by unfold nth; rw [List.getD_eq_getElem?_getD, List.getElem?_eq_none (by omega)]; rfl
      have b : nth rooms' h = 0 := by unfold nth; rw [List.getD_eq_getElem?_getD, List.getElem?_eq_none (by omega)]; rfl
      rw [a, b]; exact Int.le_refl _, fun a b h => h⟩
/-- A further run. -/
theorem moreCol_run {rooms traps : List Int} {rs : List (Int × Int)} {N : List (List Int)} (r : Int × Int) : MoreCol ⟨rooms, traps, rs, N⟩ ⟨rooms, traps, rs ++ [r], N⟩ :=
  ⟨rfl, rfl, rfl, fun _ _ => Int.le_refl _, fun a b h => by
    unfold goesB goesI at h ⊢
    rw [Bool.or_eq_true] at h ⊢
    rcases h with h | h
    · left
      rw [anyB_ex] at h ⊢
      obtain ⟨i, hi, e⟩ := h
      have hi' : i < rs.length := hi
      refine ⟨i, by show i < (rs ++ [r]).length; simp; omega, ?_⟩
      show joinsB (nthP (rs ++ [r]) i) _ _ = true
      rw [nthP_ahead hi']; exact e
    · exact .inr h⟩
theorem run_check {rooms traps : List Int} {rs : List (Int × Int)} {N : List (List Int)} (h : checkC ⟨rooms, traps, rs, N⟩ = 0) (hfew : rs.length < 12) {a b : Int} (ha : 0 ≤ a ∧ a < rooms.length) (hb : 0 ≤ b ∧ b < rooms.length) (hab : a ≠ b) (hn : ∀ j, j < rs.length → joinsB (nthP rs j) a b = false) : checkC ⟨rooms, traps, rs ++ [(a, b)], N⟩ = 0 := by
  have k := okCol_of h
  refine check_of_ok ⟨k.houses, k.traps, by show (rs ++ [(a, b)]).length ≤ 12; simp; omega, k.nights, k.row, k.room, k.trap, k.night, fun i hi => ?_, fun i hi => ?_, fun i j hi hj => ?_⟩
  · by_cases e : i < rs.length
    · have e2 : nthP (⟨rooms, traps, rs ++ [(a, b)], N⟩ : Col).runs i = nthP rs i := nthP_ahead e
      rw [e2]; exact k.run i e
    · have hi' : i < (rs ++ [(a, b)]).length := hi
      obtain rfl : i = rs.length := by simp at hi'; omega
      have e2 : nthP (⟨rooms, traps, rs ++ [(a, b)], N⟩ : Col).runs rs.length = (a, b) := nthP_new _ _
      rw [e2]; exact ⟨ha.1, ha.2, hb.1, hb.2⟩
  · by_cases e : i < rs.length
    · have e2 : nthP (⟨rooms, traps, rs ++ [(a, b)], N⟩ : Col).runs i = nthP rs i := nthP_ahead e
      rw [e2]; exact k.differ i e
    · have hi' : i < (rs ++ [(a, b)]).length := hi
      obtain rfl : i = rs.length := by simp at hi'; omega
      have e2 : nthP (⟨rooms, traps, rs ++ [(a, b)], N⟩ : Col).runs rs.length = (a, b) := nthP_new _ _
      rw [e2]; exact hab
  · have hi' : i < (rs ++ [(a, b)]).length := hi
    have e0 : nthP (⟨rooms, traps, rs ++ [(a, b)], N⟩ : Col).runs j = nthP rs j := nthP_ahead (by simp at hi'; omega)
    by_cases e : i < rs.length
    · have e2 : nthP (⟨rooms, traps, rs ++ [(a, b)], N⟩ : Col).runs i = nthP rs i := nthP_ahead e
      rw [e0, e2]; exact k.once i j e hj
    · obtain rfl : i = rs.length := by simp at hi'; omega
      have e2 : nthP (⟨rooms, traps, rs ++ [(a, b)], N⟩ : Col).runs rs.length = (a, b) := nthP_new _ _
      rw [e0, e2]; exact hn j hj
end Go.Proofs.Ytnhifinfjfpoiaa

namespace Go.Proofs.Ytnhifinfjfpoiaa
open Go.RowKit
set_option linter.unusedVariables false
set_option linter.unusedSimpArgs false

/-- What is given within the rooms is no more than the cut. -/
theorem good_cut {nl : List (Int × Int)} {r0 R : Nat → Int} {G : Nat → Nat → Int} (g : Good (frm nl) nl.length r0 R G) (hm : ∀ o, o < nl.length → perNeed G o ≤ rats nl o) : sumN (perNeed G) nl.length ≤ cutC nl r0 := by
  obtain ⟨m, _, e⟩ := cut_mem nl r0
  rw [e]
  have h1 := within_le g m.testBit
  have h2 := all_split nl (perNeed G) m.testBit
  have h3 : sumN (fun o => if subB (frm nl o) m.testBit = true then 0 else perNeed G o) nl.length ≤ elsewhere nl m.testBit := sumN_le fun o ho => by
    show (if subB (frm nl o) m.testBit = true then 0 else perNeed G o) ≤ (if subB (frm nl o) m.testBit = true then 0 else rats nl o)
    split
    · exact Int.le_refl _
    · exact hm o ho
  unfold withinOf at h1
  omega
theorem MoreCol.self (c : Col) : MoreCol c c := ⟨rfl, rfl, rfl, fun _ _ => Int.le_refl _, fun _ _ h => h⟩
theorem left_sub (c : Col) {h : Nat} (h6 : h < 6) : SubM (leftC c h) (unionN (leftC c)) := fun o ho => by
  unfold unionN
  rw [union_bit]
  exact ⟨h, h6, ho⟩
section
variable {c : Col} {T : List (List Int)} {L : List Int}
/-- Those that were caught, and some of those that are left, have room. -/
theorem left_le (hk : fitErr c = 0) (F : FitsP c T L) {f : Nat} {X : Nat → Int} (hX : ∀ h, h < c.rooms.length → 0 ≤ X h ∧ X h ≤ nth L h ∧ (0 < X h → f.testBit h = true)) : totC c + sumN X c.rooms.length ≤ moreC c f := by
  have ok := okCol_of (fit_parts hk).1
  have g := fits_good ok F
  have hl : (needsC c ++ [((361 : Int), (f : Int))]).length = (needsC c).length + 1 := by simp
  have o2 := ok.houses.2
  obtain ⟨q, hq⟩ : ∃ q : Int × Int, ((361 : Int), (f : Int)) = q := ⟨_, rfl⟩
  have hfl : frm (needsC c ++ [q]) (needsC c).length = f := by rw [← hq]; exact frm_last _ _ _
  have hrl : rats (needsC c ++ [q]) (needsC c).length = 361 := by
    unfold rats; rw [nthP_app, if_neg (Nat.lt_irrefl _), if_pos rfl, ← hq]
  rw [hq] at hl
  have key : Good (frm (needsC c ++ [q])) (needsC c ++ [q]).length (nth c.rooms)
      (fun h => nth c.rooms h - (sumN (fun o => if h < c.rooms.length then nth (nthR T o) h else 0) (needsC c).length + if h < c.rooms.length then X h else 0))
      (fun o h => if o = (needsC c).length then (if h < c.rooms.length then X h else 0) else (if h < c.rooms.length then nth (nthR T o) h else 0)) := by
    rw [hl]
    refine ⟨fun h hh => ?_, fun o h ho hh => ?_, fun o h ho hh hp => ?_, fun h hh => ?_⟩
    · have a := g.room h hh
      by_cases e : h < c.rooms.length
      · simp only [if_pos e] at a ⊢
        have b := F.col h e
        have d := hX h e
        omega
      · simp only [if_neg e] at a ⊢; omega
    · by_cases eo : o = (needsC c).length
      · simp only [if_pos eo]
        split
        · rename_i e; exact (hX h e).1
        · exact Int.le_refl _
      · simp only [if_neg eo]
        exact g.giv o h (by omega) hh
    · by_cases eo : o = (needsC c).length
      · simp only [if_pos eo] at hp
        rw [eo, hfl]
        by_cases e : h < c.rooms.length
        · rw [if_pos e] at hp; exact (hX h e).2.2 hp
        · rw [if_neg e] at hp; exact absurd hp (by omega)
      · simp only [if_neg eo] at hp
        rw [frm_app _ _ (by omega)]
        exact g.supp o h (by omega) hh hp
    · rw [sumN_succ, if_pos rfl]
      have e1 : sumN (fun o => if o = (needsC c).length then (if h < c.rooms.length then X h else 0) else (if h < c.rooms.length then nth (nthR T o) h else 0)) (needsC c).length = sumN (fun o => if h < c.rooms.length then nth (nthR T o) h else 0) (needsC c).length :=
        sumN_congr fun i hi => if_neg (by omega)
      rw [e1]; omega
  have hper : ∀ o, o < (needsC c).length → perNeed (fun o h => if o = (needsC c).length then (if h < c.rooms.length then X h else 0) else (if h < c.rooms.length then nth (nthR T o) h else 0)) o = rats (needsC c) o := fun o ho => by
    rw [← fits_per ok F ho]
    unfold perNeed
    exact sumN_congr fun i hi => if_neg (by omega)
  have hlast : perNeed (fun o h => if o = (needsC c).length then (if h < c.rooms.length then X h else 0) else (if h < c.rooms.length then nth (nthR T o) h else 0)) (needsC c).length = sumN X c.rooms.length := by
    unfold perNeed
    rw [sumN_cut o2 (fun i h1 h2 => (if_pos rfl).trans (if_neg (by omega)))]
    exact sumN_congr fun i hi => (if_pos rfl).trans (if_pos hi)
  have hbig : sumN X c.rooms.length ≤ 361 := by
    have a := rooms_sum ok
    have b : sumN X c.rooms.length ≤ sumN (nth c.rooms) c.rooms.length := sumN_le fun i hi => by
      have h1 := F.col i hi
      have h2 := hX i hi
      have h3 := sumN_nonneg (f := fun k => nth (nthR T k) i) (n := (needsC c).length) (fun k hk => (F.cell k hk i hi).1)
      omega
    have d : sumN (nth c.rooms) c.rooms.length ≤ sumN (nth c.rooms) 6 := sumN_mono o2 (fun i hi => (ok.rooms6 i hi).1)
    omega
  have h := good_cut key (fun o ho => by
    rw [hl] at ho
    by_cases e : o = (needsC c).length
    · rw [e, hlast, hrl]; exact hbig
    · rw [hper o (by omega), rats_at _ _ (by omega)]; exact Int.le_refl _)
  rw [hl, sumN_succ, hlast, sumN_congr hper] at h
  unfold moreC
  rw [hq]
  exact h
theorem fits_tot (F : FitsP c T L) : sumN (fun k => sumN (nth (nthR T k)) c.rooms.length) (needsC c).length = totC c := sumN_congr fun k hk => F.row k hk
/-- How many rats a truth has lies within what is told. -/
theorem count_within (hk : fitErr c = 0) (F : FitsP c T L) : (ratsC c).1 = totC c ∧ totC c ≤ countT T L c.rooms.length (needsC c).length ∧ countT T L c.rooms.length (needsC c).length ≤ (ratsC c).2 := by
  have ok := okCol_of (fit_parts hk).1
  have e := fits_tot F
  have h1 := left_le hk F (f := unionN (leftC c)) (X := nth L) (fun h hh => ⟨(F.left h hh).1, Int.le_refl _, (F.left h hh).2⟩)
  have h2 := sumN_nonneg (f := nth L) (n := c.rooms.length) (fun i hi => (F.left i hi).1)
  rw [rats_more ok, fit_all hk]
  unfold countT
  rw [e]
  exact ⟨rfl, by omega, by show _ ≤ moreC c (unionN (leftC c)); omega⟩
/-- How many rats of a truth have come from a house. -/
def fromT (T : List (List Int)) (L : List Int) (h K : Nat) : Int := sumN (fun k => nth (nthR T k) h) K + nth L h
theorem starts_nth (c : Col) {h : Nat} (hh : h < c.rooms.length) : nthP (startsC c) h = startOf c h := by unfold startsC startsTo nthP; simp [hh]
theorem start_lo {h : Nat} (hk : fitErr c = 0) (hh : h < c.rooms.length) : (startOf c h).1 = totC c - cutC (needsC c) (nth (c.rooms.set h 0)) := by
  have ok := okCol_of (fit_parts hk).1
  have hr : ∀ o, o < 6 → 0 ≤ nth (c.rooms.set h 0) o ∧ nth (c.rooms.set h 0) o ≤ 60 := fun o ho => by
    have a := ok.rooms6 o ho
    by_cases e : o = h
    · subst e
      have : nth (c.rooms.set o 0) o = 0 := by unfold nth; simp [hh]
      rw [this]; omega
    · have : nth (c.rooms.set h 0) o = nth c.rooms o := by unfold nth; simp [List.getElem?_set, Ne.symm e]
      rw [this]; exact a
  have e1 : (shareF (needsC c) (c.rooms.set h 0)).all = cutC (needsC c) (nth (c.rooms.set h 0)) :=
    (share_fed (needsC c) (c.rooms.set h 0) (fun o ho => by have := hr o ho; omega) (needs_nonneg ok)).cut
  have b1 := cut_nonneg (needs_nonneg ok) hr
  have b2 := cut_rooms (needsC c) (nth (c.rooms.set h 0))
  have b3 := sumN_bound (f := nth (c.rooms.set h 0)) (n := 6) (b := 60) (fun o ho => (hr o ho).2)
  have b4 := fit_bound ok
  rw [fit_all hk] at b4
  show wrap64 ((fitX c).all - (shareF (needsC c) (c.rooms.set h 0)).all) = _
  rw [fit_all hk, e1]
  unfold wrap64; omega
theorem set_at (l : List Int) (h o : Nat) (hh : h < l.length) : nth (l.set h 0) o = if o = h then 0 else nth l o := by
  unfold nth
  by_cases e : o = h
  · subst e; simp [hh]
  · simp [List.getElem?_set, Ne.symm e, e]
/-- Of each house what is told holds what any truth has of it. -/
theorem from_within (hk : fitErr c = 0) (F : FitsP c T L) {h : Nat} (hh : h < c.rooms.length) :
    (startOf c h).1 ≤ fromT T L h (needsC c).length ∧ fromT T L h (needsC c).length ≤ (startOf c h).2 ∧ 0 ≤ (startOf c h).1 ∧ (startOf c h).2 ≤ nth c.rooms h := by
  have ok := okCol_of (fit_parts hk).1
  have o2 := ok.houses.2
  have hcell : ∀ k, k < (needsC c).length → 0 ≤ nth (nthR T k) h := fun k hk => (F.cell k hk h hh).1
  have hL := F.left h hh
  have hcol := F.col h hh
  rw [start_lo hk hh]
  refine ⟨?_, ?_, ?_, ?_⟩
  · -- without this house the others hold what has not come from it
    have g := fits_good ok F
    have key : Good (frm (needsC c)) (needsC c).length (nth (c.rooms.set h 0)) (fun j => nth (c.rooms.set h 0) j - sumN (fun o => if j = h then 0 else if j < c.rooms.length then nth (nthR T o) j else 0) (needsC c).length) (fun o j => if j = h then 0 else if j < c.rooms.length then nth (nthR T o) j else 0) := by
      refine ⟨fun j hj => ?_, fun o j ho hj => ?_, fun o j ho hj hp => ?_, fun j hj => by omega⟩
      · rw [set_at _ _ _ hh]
        by_cases e : j = h
        · simp only [if_pos e]; rw [sumN_zero]; omega
        · simp only [if_neg e]; exact g.room j hj
      · by_cases e : j = h
        · simp only [if_pos e]; exact Int.le_refl _
        · simp only [if_neg e]; exact g.giv o j ho hj
      · by_cases e : j = h
        · simp only [if_pos e] at hp; exact absurd hp (by omega)
        · simp only [if_neg e] at hp; exact g.supp o j ho hj hp
    have hper : ∀ o, o < (needsC c).length → perNeed (fun o j => if j = h then 0 else if j < c.rooms.length then nth (nthR T o) j else 0) o = rats (needsC c) o - nth (nthR T o) h := fun o ho => by
      rw [← fits_per ok F ho]
      unfold perNeed
      rw [sumN_set (fun j => if j < c.rooms.length then nth (nthR T o) j else 0) h 0 6, if_pos (by omega), if_pos hh]
      show _ = sumN (fun j => if j < c.rooms.length then nth (nthR T o) j else 0) 6 - nth (nthR T o) h
      omega
    have h1 := good_cut key (fun o ho => by rw [hper o ho]; have := hcell o ho; omega)
    rw [sumN_congr hper] at h1
    have h2 : sumN (fun o => rats (needsC c) o - nth (nthR T o) h) (needsC c).length + sumN (fun o => nth (nthR T o) h) (needsC c).length = totC c := by
      rw [← sumN_add]; exact sumN_congr fun i hi => by omega
    unfold fromT
    omega
  · show _ ≤ min (startOwn c h) (nth c.rooms h)
    have a : fromT T L h (needsC c).length ≤ nth c.rooms h := hcol
    have b : fromT T L h (needsC c).length ≤ startOwn c h := by
      unfold startOwn
      cases hu : (unionN (leftC c)).testBit h
      · simp only [Bool.false_eq_true, if_false]
        have e : nth L h = 0 := by
          by_cases p : 0 < nth L h
          · have := hL.2 p; rw [hu] at this; cases this
          · omega
        unfold fromT
        rw [e, Int.add_zero]
        have own : ∀ k, ownTo (needsC c) h k = sumN (fun i => if (frm (needsC c) i).testBit h = true then rats (needsC c) i else 0) k := fun k => by
          induction k with
          | zero => rfl
          | succ k ih =>
            rw [sumN_succ, ← ih]
            show (if (frm (needsC c) k).testBit h = true then _ else _) = _
            split
            · rfl
            · rw [Int.add_zero]
        rw [own]
        refine sumN_le fun k hk => ?_
        have q := F.cell k hk h hh
        have r := F.row k hk
        split
        · have s := sumN_ge (f := nth (nthR T k)) (n := c.rooms.length) (k := h) (fun i hi => (F.cell k hk i hi).1) hh
          unfold rats; omega
        · rename_i hb
          by_cases p : 0 < nth (nthR T k) h
          · exact absurd (q.2 p) hb
          · omega
      · simp only [if_true]; exact a
    omega
  · have h1 := cut_le (needsC c) (nth (c.rooms.set h 0)) (fun _ => false)
    have h2 : roomsOf (nth (c.rooms.set h 0)) (fun _ => false) = 0 := by
      unfold roomsOf; simp only [Bool.false_eq_true, if_false]; exact sumN_zero 6
    have h3 : elsewhere (needsC c) (fun _ => false) ≤ totC c := by
      unfold elsewhere totC
      refine sumN_le fun o ho => ?_
      split
      · exact needs_nonneg ok o ho
      · exact Int.le_refl _
    omega
  · show min (startOwn c h) (nth c.rooms h) ≤ _
    omega
theorem after_nth (c : Col) {h : Nat} (hh : h < c.rooms.length) : nth (afterC c) h = mostC c (fitX c).all (leftC c h) := by unfold afterC afterTo nth; simp [hh]
/-- What is left in a house is no more than what can be. -/
theorem left_after (hk : fitErr c = 0) (F : FitsP c T L) {h : Nat} (hh : h < c.rooms.length) {X : Nat → Int} (hX : ∀ f, f < c.rooms.length → 0 ≤ X f ∧ X f ≤ nth L f ∧ (0 < X f → (leftC c h).testBit f = true)) :
    sumN X c.rooms.length ≤ nth (afterC c) h ∧ nth (afterC c) h ≤ (ratsC c).2 - (ratsC c).1 := by
  have ok := okCol_of (fit_parts hk).1
  have h1 := left_le hk F hX
  have h2 := (MoreCol.self c).more ok ok (left_sub c (h := h) (by have := ok.houses.2; omega))
  rw [after_nth c hh, most_more ok, rats_more ok, fit_all hk]
  constructor
  · omega
  · show _ ≤ moreC c (unionN (leftC c)) - totC c; omega
end
end Go.Proofs.Ytnhifinfjfpoiaa

namespace Go.Proofs.Ytnhifinfjfpoiaa
open Go.RowKit
set_option linter.unusedVariables false
set_option linter.unusedSimpArgs false

/-- A colony that Made gave, in its box. -/
def madeBox (b5 B : Nat) (r t u nn : Value) (n : Nat) (rooms traps : List Int) (rs : List (Int × Int)) (nb : Nat → Nat) (N : List (List Int)) : List Part :=
  [pBlk b5 26 #[r, t, u, nn], pRow B 3 1 n r (intsV rooms), pRow B 3 1 n t (intsV traps), pRow B 63 2 rs.length u (pairsV rs), pRows B n nn nb N]
theorem range_set {l : List Int} {h : Nat} (r : Int) (hh : h < l.length) : (List.range l.length).map (fun j => if j = h then r else nth l j) = l.set h r := by
  refine List.ext_getElem (by simp) fun i h1 h2 => ?_
  simp only [List.getElem_map, List.getElem_range]
  rw [List.getElem_set]
  have hi : i < l.length := by simpa using h1
  by_cases e : i = h
  · subst e; simp
  · rw [if_neg e, if_neg (Ne.symm e), nth_eq hi]
theorem neqs_Span1 (a b : Int) : ∀ w : World, (binOp .neq 49 (.agg #[.int .i64 a, .int .i64 b]) (.agg #[.int .i64 a, .int .i64 b])).run Try.prog w = .ok (.bool false) w := fun w => by
  rw [neq_Span]; simp
theorem pairs_nil (w : World) (B : Nat) : IsPairs w B (.slice none 0 0) [] := ⟨⟨none, 0, rfl, Nat.le_refl _, by simp, .inl rfl⟩, fun p hp => by cases hp⟩
/-- What a law knows of memory: parts apart, and lists that only stand. -/
structure CtAt (w : World) (ps : List Part) (cv lv fv sv av : Value) (T : List (List Int)) (L lf : List Int) (S : List (Int × Int)) (A : List Int) (W : World) : Prop where
  pw : PW w W ps
  rows : IsRows W W.heap.size cv T
  left : IsInts W W.heap.size lv L
  inl : IsInts W W.heap.size fv lf
  starts : IsPairs W W.heap.size sv S
  after : IsInts W W.heap.size av A
section
variable {w W W' : World} {ps qs : List Part} {cv lv fv sv av : Value} {T : List (List Int)} {L left : List Int} {S : List (Int × Int)} {A : List Int}
theorem CtAt.below (h : CtAt w ps cv lv fv sv av T L left S A W) (hb : Below W.heap.size W W') : CtAt w ps cv lv fv sv av T L left S A W' :=
  ⟨h.pw.below hb, (h.rows.below hb (Nat.le_refl _)).mono hb.size, (h.left.below hb (Nat.le_refl _)).mono hb.size, (h.inl.below hb (Nat.le_refl _)).mono hb.size, (h.starts.below hb (Nat.le_refl _)).mono hb.size, (h.after.below hb (Nat.le_refl _)).mono hb.size⟩
theorem CtAt.newBlk (h : CtAt w ps cv lv fv sv av T L left S A W) (t : Nat) (cs : Array Value) : CtAt w (ps ++ [pBlk W.heap.size t cs]) cv lv fv sv av T L left S A (W.alloc (.cells cs t)) := by
  have k := h.below (W' := W.alloc (.cells cs t)) ((Below.refl _ _).alloc (Nat.le_refl _) _)
  exact ⟨h.pw.newBlk t cs, k.rows, k.left, k.inl, k.starts, k.after⟩
theorem CtAt.same (h : CtAt w ps cv lv fv sv av T L left S A W) (e : ps = qs) : CtAt w qs cv lv fv sv av T L left S A W := e ▸ h
theorem CtAt.drop (h : CtAt w (ps ++ qs) cv lv fv sv av T L left S A W) : CtAt w ps cv lv fv sv av T L left S A W := ⟨h.pw.left, h.rows, h.left, h.inl, h.starts, h.after⟩
theorem CtAt.drew (h : CtAt w ps cv lv fv sv av T L left S A W) : CtAt w ps cv lv fv sv av T L left S A W.drew := h.below (Below.refl _ _).drew
theorem CtAt.ge (h : CtAt w ps cv lv fv sv av T L left S A W) : Below w.heap.size w W := h.pw.low
end
end Go.Proofs.Ytnhifinfjfpoiaa
