/- The iterator over the houses of a set; the list of its houses. Contract of set.list: the houses of a set, in increasing order. Marks that loops over an iterator leave on the activation: what holds of them, and the function's return behind them. Arrays of six numbers. Contract of desk.origins: for each house the set of houses from which a rat can have come. Contracts of set.list in any fence, of Origins and of desk.left. From which houses a rat can have come, in plain Lean. -/
import Derived.Test.YtnhifinfjfpoiaaGreatK01
import Derived.RangeFuncNested
import Derived.RangeFuncBound
import Derived.RangeFuncCalls
import Derived.RangeFuncLeaves
import Derived.RangeFuncBox
import Derived.OwnWalkIn
import Derived.TacticsInMore
import Derived.LoopNIn
import Derived.LoopIn
import Derived.Maps.AppendAt
import Derived.Laws.EntriesVeiled
namespace Go.Proofs.YtnhifinfjfpoiaaGreat
open Go.RowKit
set_option linter.unusedVariables false
attribute [local go_sem] Oper.semAt_some

/-- A house of the set m. -/
abbrev Mem (m : Nat) := { h : Nat // h < 6 ∧ m.testBit h = true }
def vals {m : Nat} (l : List (Mem m)) : List Nat := l.map (·.1)
theorem vals_snoc {m : Nat} (l : List (Mem m)) (x : Mem m) : vals (l ++ [x]) = vals l ++ [x.1] := by simp [vals]
theorem vals_len {m : Nat} (l : List (Mem m)) : (vals l).length = l.length := by simp [vals]
def members (m : Nat) : List Nat := (List.range 6).filter m.testBit
def upto (m k : Nat) : List Nat := (List.range k).filter m.testBit
theorem upto_yes {m k : Nat} (h : m.testBit k = true) : upto m (k + 1) = upto m k ++ [k] := by simp [upto, List.range_succ, h]
theorem upto_no {m k : Nat} (h : m.testBit k = false) : upto m (k + 1) = upto m k := by simp [upto, List.range_succ, h]
theorem upto_prefix (m k : Nat) (h : k ≤ 6) : upto m k <+: members m := by
  unfold upto members
  have : List.range k <+: List.range 6 := by
    refine ⟨(List.range' k (6 - k)), ?_⟩
    rw [List.range_eq_range', List.range_eq_range']
    have := List.range'_append (s := 0) (m := k) (n := 6 - k) (step := 1)
    simp at this
    rw [this]
    congr 1
    omega
  exact this.filter _
theorem upto_len (m k : Nat) : (upto m k).length ≤ k := by
  unfold upto; have := List.length_filter_le m.testBit (List.range k); simpa using this

theorem houses_in (F : Fence) (n m : Nat) (hF : F.fn 54) (hro : F.round = none) (w : World) :
    CallsIn F n Tryz.prog 54 #[.int .i64 m] w fun e w' => e = .returned (.func (.func 101) #[] #[.pointer (some ⟨w.heap.size, 0, none⟩)]) ∧ w.alloc (.cells #[.int .i64 m] 81) = w' := by
  refine callsIn_of_wp Tryz.func54 rfl hF ?_ hro
  simp only [Tryz.ntmps54, List.size_toArray, List.length_cons, List.length_nil, Nat.reduceAdd, Nat.reduceSub, Array.replicate_succ, Array.replicate_zero, List.push_toArray, List.append_toArray, List.nil_append, List.cons_append]
  gi_wp2
  go_ret
  exact ⟨rfl, rfl⟩

theorem houses_any (m : Nat) (w : World) : Calls Tryz.prog 54 #[.int .i64 m] w fun e w' => e = .returned (.func (.func 101) #[] #[.pointer (some ⟨w.heap.size, 0, none⟩)]) ∧ w.alloc (.cells #[.int .i64 m] 81) = w' :=
  (callsIn_wide (n := 9)).1 (houses_in _ _ m trivial rfl w)
theorem hasIn_any (F : Fence) (n m h : Nat) (hF : F.fn 96) (hro : F.round = none) (w : World) (hm : m < 64) (hh : h < 6) {v : Bool} (hv : m.testBit h = v) :
    CallsIn F n Tryz.prog 96 #[.int .i64 m, .int .i64 h] w fun e w' => e = .returned (.bool v) ∧ w = w' := by
  have hb := bit_of ⟨m, hm⟩ ⟨h, hh⟩
  simp only [hv] at hb
  have HB := Lib.hid hb; clear hb hv
  refine callsIn_of_wp Tryz.func96 rfl hF ?_ hro
  simp only [Tryz.ntmps96, List.size_toArray, List.length_cons, List.length_nil, Nat.reduceAdd, Nat.reduceSub, Array.replicate_succ, Array.replicate_zero, List.push_toArray, List.append_toArray, List.nil_append, List.cons_append]
  gi_wp2
  go_ret
  exact ⟨ret_bool HB.out, rfl⟩

set_option maxHeartbeats 1000000 in
/-- The iterator, for every loop body that keeps its box. -/
theorem houses1_in (F : Fence) (n m : Nat) (hm : m < 64) (h6 : F.fn 101) (h7 : F.fn 96) (hro : F.round = none) (hn : 1 ≤ n) (l Bn : Nat) (Kp : World → World → Prop)
    (hKp : ∀ A B : World, Kp A B → B.cell? ⟨Bn, 0, none⟩ = A.cell? ⟨Bn, 0, none⟩) (J Jx : List (Mem m) → World → Prop)
    (hY : ∀ pre x W, J pre W → pre.length < 6 → YieldAt F (n - 1) Tryz.prog l #[.int .i64 x.1] W fun e W' =>
      (e = .returned (.bool true) ∧ J (pre ++ [x]) W' ∧ Kp W W') ∨ (e = .returned (.bool false) ∧ Jx (pre ++ [x]) W'))
    (W : World) (hBn : W.cell? ⟨Bn, 0, none⟩ = some (.int .i64 m)) (h0 : J [] W) :
    CallsIn F n Tryz.prog 101 #[.func (.yield l) #[] #[], .pointer (some ⟨Bn, 0, none⟩)] W fun e W' => (∃ v, e = .returned v) ∧
      ((∃ ys : List (Mem m), vals ys = members m ∧ J ys W') ∨ (∃ pre : List (Mem m), vals pre <+: members m ∧ Jx pre W')) := by
  have HY := Lib.hid hY; have HK := Lib.hid hKp; clear hY hKp
  refine callsIn_of_wp Tryz.func101 rfl h6 ?_ hro
  simp only [Tryz.ntmps101, List.size_toArray, List.length_cons, List.length_nil, Nat.reduceAdd, Nat.reduceSub, Array.replicate_succ, Array.replicate_zero, List.push_toArray, List.append_toArray, List.nil_append, List.cons_append]
  gi_wp2_with fail
  gi_loopw [4] (fun i wr => ∃ (k : Nat), k ≤ 6 ∧ i = .int .i64 k ∧ Hid (∃ pre : List (Mem m), vals pre = upto m k ∧ J pre wr) ∧ wr.cell? ⟨Bn, 0, none⟩ = some (.int .i64 m)) (fun i _ => 6 - (intOf i).toNat)
  case atStart => exact ⟨0, by omega, rfl, ⟨[], rfl, h0⟩, hBn⟩
  case round =>
    obtain ⟨k, hk, rfl, hpre, hc⟩ := hrel
    by_cases hlt : k < 6
    · cases hb : m.testBit k
      · have HB := Lib.hid hb; clear hb
        gi_wp2_with (gi_at_call 96; refine (hasIn_any F _ m k h7 hro _ hm hlt HB.out).mono ?_; rintro e w' ⟨rfl, rfl⟩)
        refine ⟨fun _ h => (by cases h), ?_⟩
        gi_wp2_with fail
        go_roundw
        case rel => exact ⟨k + 1, by omega, by go_num, by rw [upto_no HB.out]; exact hpre, hc⟩
        case measure => simp [intOf]; omega
      · obtain ⟨pre, hp, hJ⟩ := hpre.out
        obtain ⟨fn, tmps, assign, body, hy, hR⟩ := HY.out pre ⟨k, hlt, hb⟩ wr hJ (by have := upto_len m k; have e := congrArg List.length hp; rw [vals_len] at e; omega)
        dsimp only at hy
        have HP := Lib.hid hp; have HB : Hid (m.testBit k = true) := hb; have HR := Lib.hid hR
        clear hp hR hpre hJ
        gi_wp2_with (gi_at_call 96; refine (hasIn_any F _ m k h7 hro _ hm hlt HB.out).mono ?_; rintro e w' ⟨rfl, rfl⟩)
        refine HR.out.mono ?_
        rintro e W3 (⟨rfl, hJ3, hk3⟩ | ⟨rfl, hJx3⟩)
        · have hc3 : W3.cell? ⟨Bn, 0, none⟩ = some (.int .i64 m) := (HK.out _ _ hk3).trans hc
          have HJ3 := Lib.hid hJ3; clear hJ3 hk3 hc
          gi_wp2_with fail
          go_roundw
          case rel => exact ⟨k + 1, by omega, by go_num, ⟨_, by rw [upto_yes HB.out, vals_snoc, HP.out], HJ3.out⟩, hc3⟩
          case measure => simp [intOf]; omega
        · have HJ3 := Lib.hid hJx3; clear hJx3 hc
          gi_wp2_with fail
          refine bodyPost_ret (results_none rfl _ _ _) rfl ?_
          exact ⟨⟨_, rfl⟩, .inr ⟨_, by rw [vals_snoc, HP.out]; have := upto_prefix m (k + 1) (by omega); rw [upto_yes HB.out] at this; exact this, HJ3.out⟩⟩
    · obtain ⟨pre, hp, hJ⟩ := hpre.out
      have HP := Lib.hid hp; have HJ := Lib.hid hJ; clear hp hJ hpre
      gi_wp2_with fail
      go_end0
      exact ⟨⟨_, rfl⟩, .inl ⟨pre, by rw [HP.out]; unfold members upto; rw [show k = 6 from by omega], HJ.out⟩⟩

theorem houses_stops (F : Fence) (n m : Nat) (hm : m < 64) (h6 : F.fn 101) (h7 : F.fn 96) (hro : F.round = none) (hn : 1 ≤ n) (Bn : Nat) (Kp : World → World → Prop)
    (hKp : ∀ A B : World, Kp A B → B.cell? ⟨Bn, 0, none⟩ = A.cell? ⟨Bn, 0, none⟩) (w : World) (hlt : Bn < w.heap.size) (hc : w.cell? ⟨Bn, 0, none⟩ = some (.int .i64 m)) :
    SeqStopsK F n Tryz.prog 101 #[.pointer (some ⟨Bn, 0, none⟩)] (fun x : Mem m => #[Value.int .i64 x.1]) Kp (fun ys => vals ys = members m) (fun pre => vals pre <+: members m) 6 w := fun l J Jx W hW _ _ hY h0 =>
  houses1_in F n m hm h6 h7 hro hn l Bn Kp hKp J Jx hY W ((hW.cell (p := ⟨Bn, 0, none⟩) hlt).trans hc) h0
end Go.Proofs.YtnhifinfjfpoiaaGreat

namespace Go.Proofs.YtnhifinfjfpoiaaGreat
open Go.RowKit
set_option linter.unusedVariables false
attribute [local go_sem] Oper.semAt_some

def natsV (l : List Nat) : List Value := l.map fun h : Nat => Value.int .i64 (h : Int)
theorem infoInt : (Tryz.prog.info? 3).map (fun i => (i.zero, i.size, i.bytes)) = some (some (.int .i64 0), 1, 8) := by kernel_rfl

set_option maxRecDepth 100000 in
set_option maxHeartbeats 2000000 in
theorem list_in (F : Fence) (n m : Nat) (hm : m < 64) (h1 : F.fn 44) (h2 : F.fn 54) (h3 : F.fn 101) (h4 : F.fn 96) (hro : F.round = none) (hn : 3 ≤ n) (w : World) :
    CallsIn F n Tryz.prog 44 #[.int .i64 m] w fun e W' => ∃ v, e = .returned v ∧ W'.ownsRow w.heap.size 3 1 v (members m).length (natsV (members m)) ∧ Below w.heap.size w W' := by
  have hn1 : 1 ≤ n := by omega
  obtain ⟨i0, hi, hz0, hz1, hz2⟩ := info_parts infoInt
  refine callsIn_of_wp_marks Tryz.func44 rfl h1 ?_ hro
  simp only [Tryz.ntmps44, List.size_toArray, List.length_cons, List.length_nil, Nat.reduceAdd, Nat.reduceSub, Array.replicate_succ, Array.replicate_zero, List.push_toArray, List.append_toArray, List.nil_append, List.cons_append]
  gi_wp2_with (gi_at_call 54; refine (houses_in F (n - 1) m h2 hro _).mono ?_; rintro e w' ⟨rfl, rfl⟩)
  have bO := Boxed.new w 22 (.slice none 0 0)
  have bN := Boxed.new (w.alloc (.cells #[.slice none 0 0] 22)) 81 (.int .i64 m)
  rw [World.size_alloc] at bN
  have hB0 : Below w.heap.size w ((w.alloc (.cells #[.slice none 0 0] 22)).alloc (.cells #[.int .i64 m] 81)) := ((Below.refl _ w).alloc (Nat.le_refl _) _).alloc (by simp) _
  refine wpIn_rangeFunc_ownG hro hn1 (gf := 101) (lb := #[.pointer (some ⟨w.heap.size + 1, 0, none⟩)]) rfl h3 Tryz.call101
    (houses_stops F (n - 1) m hm h3 h4 hro (by omega) (w.heap.size + 1) (fun A B => B.cell? ⟨w.heap.size + 1, 0, none⟩ = A.cell? ⟨w.heap.size + 1, 0, none⟩) (fun A B h => h) _ (by simp) bN.cell)
    (fun h k => k.trans h) (fun W l o o' hl ho hc _ => ?kb) (Below.refl _ _) (fun _ => rfl)
    (fun pre W => (∃ v, Boxed W w.heap.size 22 v ∧ W.ownsRow w.heap.size 3 1 v pre.length (natsV (vals pre)) ∧ True) ∧ (Boxed W (w.heap.size + 1) 81 (.int .i64 m) ∧ Below w.heap.size w W))
    (fun _ _ _ => False) ?hI (fun _ _ _ _ _ hs _ _ => hs) ⟨⟨_, bO.alloc _, World.ownsRow_nil _ _ _ _, trivial⟩, bN, hB0⟩
    (fun x => { tmps := #[.int .i64 m, undef, .slice none 0 0, .pointer (some ⟨w.heap.size, 0, none⟩), .int .i64 x.1, .int .i64 m, .func (.func 101) #[] #[.pointer (some ⟨w.heap.size + 1, 0, none⟩)], .int .i64 x.1, undef, undef, undef, undef, undef], defers := [] }) ?assign ?body ?done ?stop
  case kb =>
    show (W.putObj l o').cell? _ = _
    have hne : l ≠ w.heap.size + 1 := by simp at hl; omega
    exact World.cell?_of_block (w := W) (World.putObj_heap_other hne.symm)
  case hI =>
    refine OwnFrom.and (Own.from (holdsRow_own w.heap.size w.heap.size 22 3 1 (fun pre => pre.length) (fun pre : List (Mem m) => natsV (vals pre)) (fun pre v => True)) _) (OwnFrom.and (Own.from ?_ _) (ownFrom_below (Nat.le_refl _) (by simp; omega)))
    rintro s X Y row hv hg hrow
    refine hv.kept hg (fun e' => ?_)
    obtain ⟨o, ho, hc⟩ := hrow _ e'.symm
    rw [show X.heap[w.heap.size + 1]? = _ from hv] at ho; cases ho; cases hc
  case assign =>
    intro l x W K hK
    gi_wp2
    exact hK
  case body =>
    rintro l pre x W ⟨⟨v, hv, hrow, _⟩, hbx, hB⟩ hlt
    have hc := hv.cell
    have hle : pre.length ≤ 6 := by omega
    have hsz := hB.size
    gi_wp2_with (gi_at_builtin; refine wpListIn_append_own _ rfl _ _ 22 rfl w.heap.size 3 i0 (.int .i64 0) 1 8 Tryz.underlying22 hi hz0 hz1 hz2 rfl (by decide) _ _ _ rfl (hrow.alloc _) ⟨W.heap.size, 0, none⟩ 1 1 [.int .i64 x.1] rfl rfl (cell_one_new _ _ _) (by simp [Value.oneCell']) (by unfold maxLen; omega) (by omega) (by simp; omega) ?_; intro v' w1 hown' hgrow _; obtain ⟨g', cap', rfl⟩ := ownsRow_succ hown'; obtain ⟨hv1, hv2, hr2, hk2, hb2⟩ := hv.appended (by decide) hrow hB.size (Nat.le_refl _) hown' hgrow; have hc1 := hv1.cell; have hf1 := hv1.frozen)
    have hbx2 : Boxed (w1.setCell ⟨w.heap.size, 0, none⟩ (.slice (some ⟨g', 0, none⟩) (pre.length + 1) cap')) (w.heap.size + 1) 81 (.int .i64 m) := ((hbx.alloc _).kept hgrow (hbx.not_row (by decide) hrow)).other (by simp) _
    refine ⟨hk2.from _, ?_, ⟨⟨_, hv2, ?_, trivial⟩, hbx2, hB.trans hb2⟩⟩
    · show World.cell? _ _ = World.cell? _ _
      rw [hbx2.cell, hbx.cell]
    · rw [vals_snoc]; unfold natsV at hr2 ⊢; rw [List.map_append, List.length_append]; exact hr2
  case done =>
    rintro D ys W hD hys ⟨⟨v, hv, hrow, _⟩, hbx, hB⟩ hK
    have hc := hv.cell
    gi_wp2
    refine ⟨by simp, .inl ⟨_, _, rfl, run_takeDeferred hK, ?_⟩⟩
    have hlen : ys.length = (members m).length := by rw [← hys, vals_len]
    rw [hys, hlen] at hrow
    exact ⟨_, results_tmp rfl _ _ _, v, rfl, ownsRow_putObj hrow _ hK rfl, hB.trans (belowK_b (w := w) (Nat.le_refl _) W D _ _ (by simp at hD; omega) hK rfl rfl)⟩
  case stop =>
    rintro D c pre W _ _ h _
    exact h.elim
end Go.Proofs.YtnhifinfjfpoiaaGreat

namespace Go.Proofs.YtnhifinfjfpoiaaGreat
open Go.RowKit
set_option linter.unusedVariables false

/-- What hangs on the blocks below B alone is not turned by a step beyond them. -/
theorem ownFrom_of_below {β : Type} {B : Nat} {I : β → World → Prop} (hz : ∀ s W, I s W → B ≤ W.heap.size) (h : ∀ s W W', Below B W W' → I s W → I s W') : OwnFrom B I :=
  fun s W W' row hs hg hr => h s W W' (by
    refine ⟨hg.os, hg.tape, hg.output, hg.size, fun k hk => ?_⟩
    by_cases hlt : k < W.heap.size
    · exact hg.block k hlt (fun e => by have := (hr k e.symm).1; omega)
    · have := hz s W hs; omega) hs
def markOf (D : Nat) : Deferred := { target := .collected D, args := #[] }
/-- The activation's deferred calls are marks of loops over iterators, whose blocks lie from B on and are untouched. -/
def Marks (B : Nat) (ds : List Deferred) (W : World) : Prop :=
  ∃ L : List Nat, ds = L.map markOf ∧ L.Nodup ∧ ∀ D ∈ L, B ≤ D ∧ W.heap[D]? = some (.deferred (some []))
theorem Marks.nil (B : Nat) (W : World) : Marks B [] W := ⟨[], rfl, List.nodup_nil, fun _ h => by cases h⟩
/-- All marks' blocks lie below n. -/
def MarksLt (B n : Nat) (ds : List Deferred) (W : World) : Prop :=
  ∃ L : List Nat, ds = L.map markOf ∧ L.Nodup ∧ ∀ D ∈ L, B ≤ D ∧ D < n ∧ W.heap[D]? = some (.deferred (some []))
theorem MarksLt.nil (B n : Nat) (W : World) : MarksLt B n [] W := ⟨[], rfl, List.nodup_nil, fun _ h => by cases h⟩
theorem MarksLt.below {B n m : Nat} {ds : List Deferred} {W W' : World} (h : MarksLt B n ds W) (hb : Below m W W') (hn : n ≤ m) : MarksLt B n ds W' := by
  obtain ⟨L, hL, hd, h⟩ := h
  exact ⟨L, hL, hd, fun D hD => ⟨(h D hD).1, (h D hD).2.1, (hb.block D (Nat.lt_of_lt_of_le (h D hD).2.1 hn)).trans (h D hD).2.2⟩⟩
theorem MarksLt.mono {B n m : Nat} {ds : List Deferred} {W : World} (h : MarksLt B n ds W) (hn : n ≤ m) : MarksLt B m ds W := by
  obtain ⟨L, hL, hd, h⟩ := h
  exact ⟨L, hL, hd, fun D hD => ⟨(h D hD).1, Nat.lt_of_lt_of_le (h D hD).2.1 hn, (h D hD).2.2⟩⟩
theorem MarksLt.cons {B n m D : Nat} {ds : List Deferred} {W : World} (h : MarksLt B n ds W) (hD : n ≤ D) (hB : B ≤ D) (hm : D < m) (hW : W.heap[D]? = some (.deferred (some []))) :
    MarksLt B m ({ target := .collected D, args := #[] } :: ds) W := by
  obtain ⟨L, rfl, hL, hd⟩ := h
  exact ⟨D :: L, rfl, List.nodup_cons.2 ⟨fun h => by have := (hd D h).2.1; omega, hL⟩, fun E hE => by
    rcases List.mem_cons.1 hE with rfl | hE
    · exact ⟨hB, hm, hW⟩
    · exact ⟨(hd E hE).1, by have := (hd E hE).2.1; omega, (hd E hE).2.2⟩⟩
/-- A step that turns cells alone leaves the marks. -/
theorem MarksLt.kept {B n : Nat} {ds : List Deferred} {W W' : World} (h : MarksLt B n ds W) (hk : ∀ D, D < n → W.heap[D]? = some (.deferred (some [])) → W'.heap[D]? = some (.deferred (some []))) : MarksLt B n ds W' := by
  obtain ⟨L, hL, hd, h⟩ := h
  exact ⟨L, hL, hd, fun D hD => ⟨(h D hD).1, (h D hD).2.1, hk D (h D hD).2.1 (h D hD).2.2⟩⟩

theorem leaves_marks {F : Fence} {n : Nat} {P : Program} {fn : Func} {tmps : Array Value} {R : Ending → World → Prop} {B : Nat} : ∀ (L : List Nat) (W : World), L.Nodup → (∀ D ∈ L, B ≤ D ∧ W.heap[D]? = some (.deferred (some []))) →
    (∀ W', Below B W W' → LeavesIn F n P fn tmps R [] .returning W') → LeavesInM F n P fn tmps R (L.map markOf) .returning W
  | [], W, _, _, h => h W (Below.refl _ _)
  | D :: L, W, hnd, hd, h => by
    obtain ⟨h1, h2⟩ := List.nodup_cons.1 hnd
    obtain ⟨hB, hW⟩ := hd D (by simp)
    refine ⟨by simp, .inl ⟨D, _, rfl, run_takeDeferred hW, ?_⟩⟩
    have hput : Below B W (W.putObj D (.deferred none)) := by
      refine ⟨rfl, rfl, rfl, ?_, fun k hk => World.putObj_heap_other (by omega)⟩
      simp [World.putObj]
    refine leaves_marks L _ h2 (fun E hE => ⟨(hd E (by simp [hE])).1, ?_⟩) (fun W' hW' => h W' (hput.trans hW'))
    exact (World.putObj_heap_other (fun e => h1 (by rw [← e]; exact hE))).trans (hd E (by simp [hE])).2
/-- A function's return behind marks. -/
theorem ret_marks {F : Fence} {n m : Nat} {P : Program} {fn : Func} {tmps : Array Value} {R : Ending → World → Prop} {B : Nat} {ds : List Deferred} {W : World} (hds : MarksLt B m ds W)
    (h : ∀ W', Below B W W' → LeavesIn F n P fn tmps R [] .returning W') : bodyPostM F n P fn R .ret { tmps := tmps, defers := ds } W := by
  obtain ⟨L, rfl, hL, hd⟩ := hds
  exact leaves_marks L W hL (fun D hD => ⟨(hd D hD).1, (hd D hD).2.2⟩) h

/-- Block b holds six numbers. -/
def six (f : Nat → Nat) : Array Value := #[.int .i64 (f 0), .int .i64 (f 1), .int .i64 (f 2), .int .i64 (f 3), .int .i64 (f 4), .int .i64 (f 5)]
def SixIs (w : World) (b t : Nat) (f : Nat → Nat) : Prop := w.heap[b]? = some (.cells (six f) t (0, 0))
theorem six_set (f : Nat → Nat) (h x : Nat) (hh : h < 6) : (six f).setIfInBounds h (.int .i64 x) = six (fun j => if j = h then x else f j) := by
  match h, hh with
  | 0, _ => rfl
  | 1, _ => rfl
  | 2, _ => rfl
  | 3, _ => rfl
  | 4, _ => rfl
  | 5, _ => rfl
theorem six_get (f : Nat → Nat) (h : Nat) (hh : h < 6) : (six f)[h]? = some (.int .i64 (f h)) := by
  match h, hh with
  | 0, _ => rfl
  | 1, _ => rfl
  | 2, _ => rfl
  | 3, _ => rfl
  | 4, _ => rfl
  | 5, _ => rfl
theorem six_congr {f g : Nat → Nat} (h : ∀ j, j < 6 → f j = g j) : six f = six g := by
  unfold six; rw [h 0 (by omega), h 1 (by omega), h 2 (by omega), h 3 (by omega), h 4 (by omega), h 5 (by omega)]
theorem SixIs.cell {w : World} {b t : Nat} {f : Nat → Nat} (h : SixIs w b t f) (o : Nat) (ho : o < 6) : w.cell? ⟨b, o, none⟩ = some (.int .i64 (f o)) := (cell_of_row w b o _ _ _ h).trans (six_get f o ho)
theorem SixIs.cells {w : World} {b t : Nat} {f : Nat → Nat} (h : SixIs w b t f) : w.cell? ⟨b, 0, none⟩ = some (.int .i64 (f 0)) ∧ w.cell? ⟨b, 1, none⟩ = some (.int .i64 (f 1)) ∧ w.cell? ⟨b, 2, none⟩ = some (.int .i64 (f 2)) ∧ w.cell? ⟨b, 3, none⟩ = some (.int .i64 (f 3)) ∧ w.cell? ⟨b, 4, none⟩ = some (.int .i64 (f 4)) ∧ w.cell? ⟨b, 5, none⟩ = some (.int .i64 (f 5)) :=
  ⟨cell_of_row w b 0 _ _ _ h, cell_of_row w b 1 _ _ _ h, cell_of_row w b 2 _ _ _ h, cell_of_row w b 3 _ _ _ h, cell_of_row w b 4 _ _ _ h, cell_of_row w b 5 _ _ _ h⟩
theorem SixIs.free {w : World} {b t : Nat} {f : Nat → Nat} (h : SixIs w b t f) (o : Nat) : w.frozen? ⟨b, o, none⟩ = false := frozen_of_row w b o _ _ h
theorem SixIs.frees {w : World} {b t : Nat} {f : Nat → Nat} (h : SixIs w b t f) : w.frozen? ⟨b, 0, none⟩ = false ∧ w.frozen? ⟨b, 1, none⟩ = false ∧ w.frozen? ⟨b, 2, none⟩ = false ∧ w.frozen? ⟨b, 3, none⟩ = false ∧ w.frozen? ⟨b, 4, none⟩ = false ∧ w.frozen? ⟨b, 5, none⟩ = false :=
  ⟨frozen_of_row w b 0 _ _ h, frozen_of_row w b 1 _ _ h, frozen_of_row w b 2 _ _ h, frozen_of_row w b 3 _ _ h, frozen_of_row w b 4 _ _ h, frozen_of_row w b 5 _ _ h⟩
theorem SixIs.below {w w' : World} {b t B : Nat} {f : Nat → Nat} (h : SixIs w b t f) (hb : Below B w w') (hB : b < B) : SixIs w' b t f := (hb.block b hB).trans h
theorem SixIs.set {w : World} {b t : Nat} {f : Nat → Nat} (h : SixIs w b t f) (o x : Nat) (ho : o < 6) : SixIs (w.setCell ⟨b, o, none⟩ (.int .i64 x)) b t (fun j => if j = o then x else f j) := by
  unfold SixIs; rw [heap_setCell_same w b o _ _ _ h, six_set f o x ho]
theorem SixIs.congr {w : World} {b t : Nat} {f g : Nat → Nat} (h : SixIs w b t f) (e : ∀ j, j < 6 → f j = g j) : SixIs w b t g := by
  unfold SixIs at h ⊢; rw [h, six_congr e]
theorem size_set (w : World) (a : Addr) (v : Value) : (w.setCell a v).heap.size = w.heap.size := by simp [World.setCell]
theorem size_setd (w : World) (a : Addr) (v : Value) : (w.setCell a v).drew.heap.size = w.heap.size := by simp [World.setCell, World.drew]
/-- Six stores, one behind the other: the array holds g. -/
theorem SixIs.copy {w : World} {b t : Nat} {f : Nat → Nat} (h : SixIs w b t f) (g : Nat → Nat) :
    SixIs ((((((w.setCell ⟨b, 0, none⟩ (.int .i64 (g 0))).setCell ⟨b, 1, none⟩ (.int .i64 (g 1))).setCell ⟨b, 2, none⟩ (.int .i64 (g 2))).setCell ⟨b, 3, none⟩ (.int .i64 (g 3))).setCell ⟨b, 4, none⟩ (.int .i64 (g 4))).setCell ⟨b, 5, none⟩ (.int .i64 (g 5))) b t g :=
  ((((((h.set 0 (g 0) (by decide)).set 1 (g 1) (by decide)).set 2 (g 2) (by decide)).set 3 (g 3) (by decide)).set 4 (g 4) (by decide)).set 5 (g 5) (by decide)).congr (fun j hj => by
    match j, hj with
    | 0, _ => rfl
    | 1, _ => rfl
    | 2, _ => rfl
    | 3, _ => rfl
    | 4, _ => rfl
    | 5, _ => rfl)
theorem below_copy {B b : Nat} (w : World) (hB : B ≤ b) (v0 v1 v2 v3 v4 v5 : Value) :
    Below B w ((((((w.setCell ⟨b, 0, none⟩ v0).setCell ⟨b, 1, none⟩ v1).setCell ⟨b, 2, none⟩ v2).setCell ⟨b, 3, none⟩ v3).setCell ⟨b, 4, none⟩ v4).setCell ⟨b, 5, none⟩ v5) :=
  ((((((Below.refl B w).setCell (p := ⟨b, 0, none⟩) hB _).setCell (p := ⟨b, 1, none⟩) hB _).setCell (p := ⟨b, 2, none⟩) hB _).setCell (p := ⟨b, 3, none⟩) hB _).setCell (p := ⟨b, 4, none⟩) hB _).setCell (p := ⟨b, 5, none⟩) hB _
theorem size_copy (w : World) (b : Nat) (v0 v1 v2 v3 v4 v5 : Value) :
    ((((((w.setCell ⟨b, 0, none⟩ v0).setCell ⟨b, 1, none⟩ v1).setCell ⟨b, 2, none⟩ v2).setCell ⟨b, 3, none⟩ v3).setCell ⟨b, 4, none⟩ v4).setCell ⟨b, 5, none⟩ v5).heap.size = w.heap.size := by simp only [size_set]
theorem MarksLt.copy {B n b t : Nat} {f : Nat → Nat} {ds : List Deferred} {w : World} (h : MarksLt B n ds w) (hs : SixIs w b t f) (v0 v1 v2 v3 v4 v5 : Value) :
    MarksLt B n ds ((((((w.setCell ⟨b, 0, none⟩ v0).setCell ⟨b, 1, none⟩ v1).setCell ⟨b, 2, none⟩ v2).setCell ⟨b, 3, none⟩ v3).setCell ⟨b, 4, none⟩ v4).setCell ⟨b, 5, none⟩ v5) :=
  h.kept fun D _ hD => by
    have hne : D ≠ b := fun e => by rw [e, show w.heap[b]? = _ from hs] at hD; cases hD
    rw [Below.heap_setCell _ _ _ _ hne, Below.heap_setCell _ _ _ _ hne, Below.heap_setCell _ _ _ _ hne, Below.heap_setCell _ _ _ _ hne, Below.heap_setCell _ _ _ _ hne, Below.heap_setCell _ _ _ _ hne]
    exact hD
end Go.Proofs.YtnhifinfjfpoiaaGreat

namespace Go.Proofs.YtnhifinfjfpoiaaGreat
open Go.RowKit
set_option linter.unusedVariables false
attribute [local go_sem] Oper.semAt_some

theorem near_in {c : Col} (ok : OkCol c) {h o : Nat} (hh : h < c.rooms.length) (ho : o < 6) (hb : (nearC c h).testBit o = true) : o < c.rooms.length := by
  unfold nearC at hb
  rw [if_pos hh, maskOf_bit _ o ho] at hb
  unfold goesB goesI at hb
  rw [Bool.or_eq_true] at hb
  rcases hb with hb | hb
  · unfold anyB at hb
    rw [List.any_eq_true] at hb
    obtain ⟨i, hi, hj⟩ := hb
    have hr := ok.run i (List.mem_range.1 hi)
    simp [joinsB] at hj
    omega
  · simp at hb; omega
theorem dfull_as {c : Col} {h m : Nat} {v : Bool} (hv : fullB c h m = v) (p : Nat) (w : World) (hd : Desk w p c) (hh : h < c.rooms.length) (hm : m < c.nights.length) :
    Calls Tryz.prog 88 #[.pointer (some ⟨p, 0, none⟩), .int .i64 h, .int .i64 m] w fun e w' => e = .returned (.bool v) ∧ Below w.heap.size w w' :=
  (dfull_any c p h m w hd hh hm).mono (by rintro e w' ⟨rfl, k, rfl⟩; exact ⟨by rw [hv], below_drewN _ _⟩)
def orgStep (c : Col) (k : Nat) (prev : Nat → Nat) (l : List Nat) : Nat := l.foldl (fun acc f => if fullB c f k then orN acc (prev f) else acc) 0
/-- From which houses can a rat have come that is in house h in night k? -/
def org (c : Col) : Nat → Nat → Nat
  | 0, h => if h < c.rooms.length then pw h else 0
  | k + 1, h => if h < c.rooms.length then orgStep c k (org c k) (members (nearC c h)) else 0
theorem orgStep_snoc (c : Col) (k : Nat) (prev : Nat → Nat) (l : List Nat) (f : Nat) : orgStep c k prev (l ++ [f]) = if fullB c f k then orN (orgStep c k prev l) (prev f) else orgStep c k prev l := by
  simp [orgStep, List.foldl_append]
theorem orgStep_lt {c : Col} {k : Nat} {prev : Nat → Nat} (hp : ∀ f, prev f < 64) : ∀ l : List Nat, orgStep c k prev l < 64 := by
  have key : ∀ (l : List Nat) (a : Nat), a < 64 → l.foldl (fun acc f => if fullB c f k then orN acc (prev f) else acc) a < 64 := by
    intro l
    induction l with
    | nil => intro a h; exact h
    | cons f l ih =>
      intro a h
      rw [List.foldl_cons]
      refine ih _ ?_
      split
      · exact orN_lt h (hp f)
      · exact h
  exact fun l => key l 0 (by decide)
theorem org_lt (c : Col) (hc : c.rooms.length ≤ 6) : ∀ k h, org c k h < 64
  | 0, h => by
    unfold org; split
    · exact pw_lt (by omega)
    · decide
  | k + 1, h => by
    unfold org; split
    · exact orgStep_lt (org_lt c hc k) _
    · decide

def OrgI (c : Col) (p N : Nat) (w W1 : World) (a : Act) (wr : World) : Prop :=
  ∃ (k : Nat) (u1 u2 u3 u7 u8 u9 u10 u11 u12 u13 u14 u15 u16 u17 u18 u19 u20 u21 u22 u23 u24 u25 u26 u27 u30 u31 u32 u33 u34 u35 u36 u37 u38 u39 u40 u41 u42 u43 u44 u45 u46 u47 u48 u49 u50 u51 u52 u53 u54 u55 u56 u57 u58 u59 u60 u61 u62 u63 u64 : Value) (ds : List Deferred), a = { tmps := #[.pointer (some ⟨p, 0, none⟩), u1, u2, u3, .pointer (some ⟨w.heap.size, 0, none⟩), .pointer (some ⟨w.heap.size + 1, 0, none⟩), .pointer (some ⟨w.heap.size + 1 + 1, 0, none⟩), u7, u8, u9, u10, u11, u12, u13, u14, u15, u16, u17, u18, u19, u20, u21, u22, u23, u24, u25, u26, u27, .int .i64 N, .int .i64 k, u30, u31, u32, u33, u34, u35, u36, u37, u38, u39, u40, u41, u42, u43, u44, u45, u46, u47, u48, u49, u50, u51, u52, u53, u54, u55, u56, u57, u58, u59, u60, u61, u62, u63, u64], defers := ds } ∧ k ≤ N ∧
    SixIs wr (w.heap.size + 1 + 1) 129 (org c k) ∧ Below (w.heap.size + 1 + 1) W1 wr ∧ W1.heap.size ≤ wr.heap.size ∧ MarksLt (w.heap.size + 1) wr.heap.size ds wr
def OrgJ (c : Col) (p N k bn bx : Nat) (w W2 : World) (a : Act) (wr : World) : Prop :=
  ∃ (h : Nat) (u1 u2 u3 u7 u10 u11 u12 u13 u14 u15 u16 u17 u18 u19 u20 u21 u22 u23 u24 u25 u26 u27 u30 u31 u32 u33 u34 u35 u36 u39 u40 u41 u42 u43 u44 u45 u46 u47 u48 u49 u50 u51 u52 u53 u54 u55 u56 u57 u58 u59 u60 u61 u62 u63 u64 : Value) (ds : List Deferred), a = { tmps := #[.pointer (some ⟨p, 0, none⟩), u1, u2, u3, .pointer (some ⟨w.heap.size, 0, none⟩), .pointer (some ⟨w.heap.size + 1, 0, none⟩), .pointer (some ⟨w.heap.size + 1 + 1, 0, none⟩), u7, .pointer (some ⟨bn, 0, none⟩), .pointer (some ⟨bx, 0, none⟩), u10, u11, u12, u13, u14, u15, u16, u17, u18, u19, u20, u21, u22, u23, u24, u25, u26, u27, .int .i64 N, .int .i64 k, u30, u31, u32, u33, u34, u35, u36, .int .i64 c.rooms.length, .int .i64 h, u39, u40, u41, u42, u43, u44, u45, u46, u47, u48, u49, u50, u51, u52, u53, u54, u55, u56, u57, u58, u59, u60, u61, u62, u63, u64], defers := ds } ∧ h ≤ c.rooms.length ∧
    SixIs wr bx 129 (fun j => if j < h then org c (k + 1) j else 0) ∧ Below bx W2 wr ∧ MarksLt (w.heap.size + 1) wr.heap.size ds wr

set_option maxRecDepth 100000 in
set_option maxHeartbeats 4000000 in
theorem origins_any (c : Col) (p N : Nat) (w : World) (hd : Desk w p c) (hN : N ≤ c.nights.length) :
    Calls Tryz.prog 89 #[.pointer (some ⟨p, 0, none⟩), .int .i64 N] w fun e w' => e = .returned (.agg (six (org c N))) ∧ Below w.heap.size w w' := by
  have hplt := hd.1
  have ok := hd.2.1
  obtain ⟨o1, o2⟩ := ok.houses
  have o3 := ok.nights
  have HD := Lib.hid hd; have HOK := Lib.hid ok
  obtain ⟨ar, cr, at_, ct, au, cu, an, cn, hbx, hnear, hcol⟩ := hd.open
  have HBX := Lib.hid hbx; have HN := Lib.hid hnear
  have hb3 : Below w.heap.size w (((w.alloc (.cells #[.int .i64 0, .int .i64 0, .int .i64 0, .int .i64 0, .int .i64 0, .int .i64 0] 129)).alloc (.cells #[.func (.func 88) #[.pointer (some ⟨p, 0, none⟩)] #[]] 128)).alloc (.cells #[.int .i64 0, .int .i64 0, .int .i64 0, .int .i64 0, .int .i64 0, .int .i64 0] 129)) := (((Below.refl _ w).alloc (Nat.le_refl _) _).alloc (by simp) _).alloc (by simp; omega) _
  obtain ⟨c0, c1, c2, c3⟩ := hbx.below hb3 hplt
  have HB3 := Lib.hid hb3
  clear hd hnear hcol ok hb3 hbx
  refine (callsIn_wide (n := 9)).1 ?_
  refine callsIn_of_wp_marks Tryz.func89 rfl trivial ?_ rfl
  simp only [Tryz.ntmps89, List.size_toArray, List.length_cons, List.length_nil, Nat.reduceAdd, Nat.reduceSub, Array.replicate_succ, Array.replicate_zero, List.push_toArray, List.append_toArray, List.nil_append, List.cons_append]
  gi_wp2_with fail
  obtain ⟨W1, hW1⟩ : ∃ W1, (((w.alloc (.cells #[.int .i64 0, .int .i64 0, .int .i64 0, .int .i64 0, .int .i64 0, .int .i64 0] 129)).alloc (.cells #[.func (.func 88) #[.pointer (some ⟨p, 0, none⟩)] #[]] 128)).alloc (.cells #[.int .i64 0, .int .i64 0, .int .i64 0, .int .i64 0, .int .i64 0, .int .i64 0] 129)) = W1 := ⟨_, rfl⟩
  have hs1 : W1.heap.size = w.heap.size + 3 := by rw [← hW1]; simp
  have hnow : SixIs W1 (w.heap.size + 1 + 1) 129 (fun _ => 0) := by rw [← hW1]; have := heap_alloc_new ((w.alloc (.cells #[.int .i64 0, .int .i64 0, .int .i64 0, .int .i64 0, .int .i64 0, .int .i64 0] 129)).alloc (.cells #[.func (.func 88) #[.pointer (some ⟨p, 0, none⟩)] #[]] 128)) (.cells #[.int .i64 0, .int .i64 0, .int .i64 0, .int .i64 0, .int .i64 0, .int .i64 0] 129); simp only [World.size_alloc] at this; exact this
  have hfn : W1.cell? ⟨w.heap.size + 1, 0, none⟩ = some (.func (.func 88) #[.pointer (some ⟨p, 0, none⟩)] #[]) := by rw [← hW1]; simp [go_sem]
  have hres : SixIs W1 w.heap.size 129 (fun _ => 0) := by
    rw [← hW1]
    have h1 := heap_alloc_new w (.cells #[.int .i64 0, .int .i64 0, .int .i64 0, .int .i64 0, .int .i64 0, .int .i64 0] 129)
    exact ((((Below.refl (w.heap.size + 1) _).alloc (by simp) _).alloc (by simp) _).block w.heap.size (by omega)).trans h1
  rw [hW1] at HB3 c0 c1 c2 c3 ⊢
  have HX := Lib.hid (And.intro hs1 (And.intro hnow (And.intro hfn hres)))
  clear hW1 hs1 hnow hfn hres c0 c1 c2 c3
  gi_loopw [20] (fun i wr => ∃ k : Nat, k ≤ c.rooms.length ∧ i = .int .i64 k ∧ Hid (SixIs wr (w.heap.size + 1 + 1) 129 (fun j => if j < k then pw j else 0)) ∧ Hid (Below (w.heap.size + 1 + 1) W1 wr)) (fun i _ => c.rooms.length - (intOf i).toNat)
  case atStart => exact ⟨0, Nat.zero_le _, rfl, HX.out.2.1, Below.refl _ _⟩
  case round =>
    obtain ⟨k, hk, rfl, hsix, hbr⟩ := hrel
    by_cases hlt : k < c.rooms.length
    · have hk6 : k < 6 := by omega
      have hk6i : (k : Int) < 6 := by omega
      have hwp := wrap_pw hk6
      have hfr := hsix.out.free k
      have hcl := hsix.out.cell k hk6
      gi_wp2_with fail
      have hs2 : SixIs (wr.setCell ⟨w.heap.size + 1 + 1, k, none⟩ (.int .i64 (pw k))) (w.heap.size + 1 + 1) 129 (fun j => if j < k + 1 then pw j else 0) :=
        (hsix.out.set k (pw k) hk6).congr (fun j _ => by
          by_cases e1 : j = k
          · subst e1; simp
          · by_cases e2 : j < k
            · simp [e1, e2, Nat.lt_succ_of_lt e2]
            · have : ¬ j < k + 1 := by omega
              simp [e1, e2, this])
      have hb2 : Below (w.heap.size + 1 + 1) W1 (wr.setCell ⟨w.heap.size + 1 + 1, k, none⟩ (.int .i64 (pw k))) := hbr.out.setCell (by simp) _
      have HS := Lib.hid (And.intro hs2 hb2); clear hs2 hb2
      go_roundw
      case rel => exact ⟨k + 1, by omega, by go_num, HS.out.1, HS.out.2⟩
      case measure => simp [intOf]; omega
    · have hs0 : SixIs wr (w.heap.size + 1 + 1) 129 (org c 0) := hsix.out.congr (fun j hj => by unfold org; rw [show k = c.rooms.length from by omega])
      have HS0 := Lib.hid hs0; clear hs0 hsix
      gi_wp2_with fail
      refine wpIn_loop (OrgI c p N w W1) (fun a _ => N - (intOf (a.tmps.getD 29 undef)).toNat) ?_ ?_
      · exact ⟨0, _, _, _, _, _, _, _, _, _, _, _, _, _, _, _, _, _, _, _, _, _, _, _, _, _, _, _, _, _, _, _, _, _, _, _, _, _, _, _, _, _, _, _, _, _, _, _, _, _, _, _, _, _, _, _, _, _, _, _, [], rfl, Nat.zero_le _, HS0.out, hbr.out, hbr.out.size, MarksLt.nil _ _ _⟩
      · clear HS0 hbr hk hlt
        rintro a wo ⟨m, u1, u2, u3, u7, u8, u9, u10, u11, u12, u13, u14, u15, u16, u17, u18, u19, u20, u21, u22, u23, u24, u25, u26, u27, u30, u31, u32, u33, u34, u35, u36, u37, u38, u39, u40, u41, u42, u43, u44, u45, u46, u47, u48, u49, u50, u51, u52, u53, u54, u55, u56, u57, u58, u59, u60, u61, u62, u63, u64, ds, rfl, hm, hnow, hbo, hsz, hmk⟩
        have HNOW := Lib.hid hnow; have HBO := Lib.hid hbo; have HMK := Lib.hid hmk
        clear hnow hbo hmk
        by_cases hlt : m < N
        · have hb2 : Below wo.heap.size wo ((wo.alloc (.cells #[.int .i64 m] 3)).alloc (.cells #[.int .i64 0, .int .i64 0, .int .i64 0, .int .i64 0, .int .i64 0, .int .i64 0] 129)) := ((Below.refl _ wo).alloc (Nat.le_refl _) _).alloc (by simp) _
          have hsz3 := HX.out.1
          have hwo : Below w.heap.size w wo := HB3.out.trans (HBO.out.mono (by omega))
          have hpo : p < wo.heap.size := Nat.lt_of_lt_of_le hplt hwo.size
          obtain ⟨c0, c1, c2, c3⟩ := (HBX.out.below hwo hplt).below hb2 hpo
          have HB2 := Lib.hid hb2; have HWO := Lib.hid hwo
          clear hb2 hwo hsz3
          gi_wp2_with fail
          clear c0 c1 c2 c3
          obtain ⟨W2, hW2⟩ : ∃ W2, (wo.alloc (.cells #[.int .i64 m] 3)).alloc (.cells #[.int .i64 0, .int .i64 0, .int .i64 0, .int .i64 0, .int .i64 0, .int .i64 0] 129) = W2 := ⟨_, rfl⟩
          have hn2 : Boxed W2 wo.heap.size 3 (.int .i64 m) := by rw [← hW2]; exact (Boxed.new wo _ _).alloc _
          have hx2 : SixIs W2 (wo.heap.size + 1) 129 (fun _ => 0) := by rw [← hW2]; have := heap_alloc_new (wo.alloc (.cells #[.int .i64 m] 3)) (.cells #[.int .i64 0, .int .i64 0, .int .i64 0, .int .i64 0, .int .i64 0, .int .i64 0] 129); simp only [World.size_alloc] at this; exact this
          have hs2 : W2.heap.size = wo.heap.size + 2 := by rw [← hW2]; simp
          rw [hW2] at HB2 ⊢
          have HX2 := Lib.hid (And.intro hn2 (And.intro hx2 hs2))
          clear hW2 hn2 hx2 hs2
          refine wpIn_loop (OrgJ c p N m wo.heap.size (wo.heap.size + 1) w W2) (fun a _ => c.rooms.length - (intOf (a.tmps.getD 38 undef)).toNat) ?_ ?_
          · exact ⟨0, _, _, _, _, _, _, _, _, _, _, _, _, _, _, _, _, _, _, _, _, _, _, _, _, _, _, _, _, _, _, _, _, _, _, _, _, _, _, _, _, _, _, _, _, _, _, _, _, _, _, _, _, _, _, _, ds, rfl, Nat.zero_le _, HX2.out.2.1, Below.refl _ _, (HMK.out.below HB2.out (Nat.le_refl _)).mono (by have := HX2.out.2.2; omega)⟩
          · clear HMK
            rintro a wi ⟨h, u1, u2, u3, u7, u10, u11, u12, u13, u14, u15, u16, u17, u18, u19, u20, u21, u22, u23, u24, u25, u26, u27, u30, u31, u32, u33, u34, u35, u36, u39, u40, u41, u42, u43, u44, u45, u46, u47, u48, u49, u50, u51, u52, u53, u54, u55, u56, u57, u58, u59, u60, u61, u62, u63, u64, ds, rfl, hh, hnext, hbi, hmk⟩
            have HNX := Lib.hid hnext; have HBI := Lib.hid hbi; have HMK := Lib.hid hmk
            clear hnext hbi hmk
            by_cases hlh : h < c.rooms.length
            · have hb3 : Below wi.heap.size wi (wi.alloc (.cells #[.int .i64 h] 3)) := (Below.refl _ wi).alloc (Nat.le_refl _) _
              have hwi : Below w.heap.size w wi := (HWO.out.trans (HB2.out.mono (by have := HWO.out.size; omega))).trans (HBI.out.mono (by have := HWO.out.size; omega))
              have hpi : p < wi.heap.size := Nat.lt_of_lt_of_le hplt hwi.size
              obtain ⟨c0, c1, c2, c3⟩ := (HBX.out.below hwi hplt).below hb3 hpi
              have hh6 : h < 6 := by omega
              have hh6i : (h : Int) < 6 := by omega
              have hnr : (wi.alloc (.cells #[.int .i64 h] 3)).cell? ⟨p, 4 + h, none⟩ = some (.int .i64 (nearC c h)) := (hb3.cell (p := ⟨p, 4 + h, none⟩) hpi).trans ((hwi.cell (p := ⟨p, 4 + h, none⟩) hplt).trans (HN.out h hh6))
              have hbh : (wi.alloc (.cells #[.int .i64 h] 3)).cell? ⟨wi.heap.size, 0, none⟩ = some (.int .i64 h) := (Boxed.new wi _ _).cell
              have HB3' := Lib.hid hb3; have HWI := Lib.hid hwi; have HPI := Lib.hid hpi
              clear hb3 hwi hpi
              gi_wp2_with fail
              refine wpIn_wide.2 ?_
              obtain ⟨W3, hW3⟩ : ∃ W3, wi.alloc (.cells #[.int .i64 h] 3) = W3 := ⟨_, rfl⟩
              have hbx3 := Boxed.new wi 3 (.int .i64 h)
              have hs3 : W3.heap.size = wi.heap.size + 1 := by rw [← hW3]; simp
              rw [hW3] at c0 c1 c2 c3 hnr hbh HB3' hbx3 ⊢
              have HX3 := Lib.hid (And.intro hbx3 hs3)
              clear hW3 hbx3 hs3
              go_still_tail 6, (by kernel_rfl)
              change wpList _ _ _ _ _ W3.drew
              go_wp2_with (go_at_call 54; refine (houses_any _ _).mono ?_; rintro e w' ⟨rfl, rfl⟩)
              refine wpIn_block ?_
              obtain ⟨W4, hW4⟩ : ∃ W4, (W3.alloc (.cells #[.int .i64 (nearC c h)] 81)).drew = W4 := ⟨_, rfl⟩
              have hit4 : Boxed W4 W3.heap.size 81 (.int .i64 (nearC c h)) := by rw [← hW4]; exact Boxed.new W3 _ _
              have hb4 : Below W3.heap.size W3 W4 := by rw [← hW4]; exact ((Below.refl _ W3).alloc (Nat.le_refl _) _).drew
              have hs4 : W4.heap.size = W3.heap.size + 1 := by rw [← hW4]; simp
              have hs3 := HX3.out.2
              have hs2 := HX2.out.2.2
              rw [hW4]
              clear hW4 c0 c1 c2 c3 hnr hbh
              have hle := HWO.out.size
              have hle2 := HBI.out.size
              have hwi4 : Below wi.heap.size wi W4 := HB3'.out.trans (hb4.mono (by omega))
              have hbx4 : SixIs W4 (wo.heap.size + 1) 129 (fun j => if j < h then org c (m + 1) j else 0) := HNX.out.below hwi4 (by omega)
              have hn4 : Boxed W4 wo.heap.size 3 (.int .i64 m) := (hwi4.block _ (by omega)).trans ((HBI.out.block _ (by omega)).trans HX2.out.1)
              have hnow4 : SixIs W4 (w.heap.size + 1 + 1) 129 (org c m) := (HNOW.out.below HB2.out (by have := HX.out.1; have := HBO.out.size; omega)).below (HBI.out) (by have := HX.out.1; have := HBO.out.size; omega) |>.below hwi4 (by have := HX.out.1; have := HBO.out.size; omega)
              have hfn4 : W4.cell? ⟨w.heap.size + 1, 0, none⟩ = some (.func (.func 88) #[.pointer (some ⟨p, 0, none⟩)] #[]) := by
                have q1 := HX.out.1
                have q2 := HBO.out.size
                have e := HX.out.2.2.1
                rw [← HBO.out.cell (p := ⟨w.heap.size + 1, 0, none⟩) (by simp), ← HB2.out.cell (p := ⟨w.heap.size + 1, 0, none⟩) (by simp; omega), ← HBI.out.cell (p := ⟨w.heap.size + 1, 0, none⟩) (by simp; omega), ← hwi4.cell (p := ⟨w.heap.size + 1, 0, none⟩) (by simp; omega)] at e
                exact e
              have hh4 : Boxed W4 wi.heap.size 3 (.int .i64 h) := (hb4.block _ (by omega)).trans HX3.out.1
              have hdesk4 : Desk W4 p c := (HD.out.below HWI.out).below (hwi4)
              have hmk4 : MarksLt (w.heap.size + 1) W4.heap.size ds W4 := (HMK.out.below hwi4 (Nat.le_refl _)).mono (by omega)
              have HF := Lib.hid (And.intro hbx4 (And.intro hn4 (And.intro hnow4 (And.intro hfn4 (And.intro hh4 (And.intro hdesk4 (And.intro hmk4 (And.intro hit4 hwi4))))))))
              clear hbx4 hn4 hnow4 hfn4 hh4 hdesk4 hmk4 hit4 hwi4 hb4
              have q1 := HX.out.1
              have q2 := HBO.out.size
              have hnlt := nearC_lt c h
              have l1 : wi.heap.size < W3.heap.size := by omega
              have l2 : W3.heap.size < W4.heap.size := by omega
              have l3 : wo.heap.size + 2 ≤ wi.heap.size := by omega
              have l4 : w.heap.size + 3 ≤ wo.heap.size := by omega
              clear hs2 hs3 hs4 q1 q2 hle hle2
              refine wpIn_rangeFunc_ownG rfl (by decide) (gf := 101) (lb := #[.pointer (some ⟨W3.heap.size, 0, none⟩)]) rfl trivial Tryz.call101
                (houses_stops Fence.wide 8 (nearC c h) hnlt trivial trivial rfl (by decide) W3.heap.size (fun A B => B.cell? ⟨W3.heap.size, 0, none⟩ = A.cell? ⟨W3.heap.size, 0, none⟩) (fun A B h => h) W4 (by omega) HF.out.2.2.2.2.2.2.2.1.cell)
                (fun h k => k.trans h) (fun W l o o' hl ho hc _ => ?kb) (Below.refl _ _) (fun _ => rfl)
                (fun pre W => SixIs W (wo.heap.size + 1) 129 (fun j => if j < h then org c (m + 1) j else if j = h then orgStep c m (org c m) (vals pre) else 0) ∧ Below (wo.heap.size + 1) W4 W ∧ Boxed W W3.heap.size 81 (.int .i64 (nearC c h)) ∧ Boxed W wi.heap.size 3 (.int .i64 h) ∧ MarksLt (w.heap.size + 1) W4.heap.size ds W ∧ W4.heap.size ≤ W.heap.size)
                (fun _ _ _ => False) ?hI (fun _ _ _ _ _ hs _ _ => hs) ?h0
                (fun x => { tmps := #[.pointer (some ⟨p, 0, none⟩), u1, u2, u3, .pointer (some ⟨w.heap.size, 0, none⟩), .pointer (some ⟨w.heap.size + 1, 0, none⟩), .pointer (some ⟨w.heap.size + 1 + 1, 0, none⟩), u7, .pointer (some ⟨wo.heap.size, 0, none⟩), .pointer (some ⟨wo.heap.size + 1, 0, none⟩), .pointer (some ⟨wi.heap.size, 0, none⟩), .int .i64 x.1, u12, u13, u14, u15, u16, u17, u18, u19, u20, u21, u22, u23, u24, u25, u26, u27, .int .i64 N, .int .i64 m, u30, u31, u32, u33, u34, u35, u36, .int .i64 c.rooms.length, .int .i64 h, .bool true, .int .i64 h, .pointer (some ⟨p, 0, none⟩), .int .i64 h, .pointer (some ⟨p, 0, none⟩), .pointer (some ⟨p, 4, none⟩), .pointer (some ⟨p, 4 + h, none⟩), .int .i64 (nearC c h), .func (.func 101) #[] #[.pointer (some ⟨W3.heap.size, 0, none⟩)], .int .i64 x.1, u49, u50, u51, u52, u53, u54, u55, u56, u57, u58, u59, u60, u61, u62, u63, u64], defers := [] }) ?assign ?body ?done ?stop
              case kb =>
                show (W.putObj l o').cell? _ = _
                have hne : W3.heap.size ≠ l := by omega
                exact World.cell?_of_block (w := W) (World.putObj_heap_other hne)
              case hI =>
                refine ownFrom_of_below (fun s W h => h.2.2.2.2.2) ?_
                rintro s W W' hb ⟨g1, g2, g3, g4, g5, g6⟩
                exact ⟨g1.below hb (by omega), g2.trans (hb.mono (by omega)), (hb.block _ (by omega)).trans g3, (hb.block _ (by omega)).trans g4, g5.below hb (Nat.le_refl _), Nat.le_trans g6 hb.size⟩
              case h0 =>
                exact ⟨HF.out.1.congr (fun j hj => by
                  by_cases e1 : j < h
                  · simp [e1]
                  · by_cases e2 : j = h
                    · rw [if_neg e1, if_neg e1, if_pos e2]; rfl
                    · simp [e1, e2]), Below.refl _ _, HF.out.2.2.2.2.2.2.2.1, HF.out.2.2.2.2.1, HF.out.2.2.2.2.2.2.1, Nat.le_refl _⟩
              case assign =>
                intro l x W K hK
                gi_wp2
                exact hK
              case body =>
                rintro l pre x W ⟨g1, g2, g3, g4, g5, g6⟩ hlt
                have hx6 := x.2.1
                have hxn : x.1 < c.rooms.length := near_in HOK.out hlh x.2.1 x.2.2
                have hW0 : Below w.heap.size w W := (HWI.out.trans (HF.out.2.2.2.2.2.2.2.2.mono (by omega))).trans (g2.mono (by omega))
                have hdW : Desk W p c := HD.out.below hW0
                have hfn : W.cell? ⟨w.heap.size + 1, 0, none⟩ = some (.func (.func 88) #[.pointer (some ⟨p, 0, none⟩)] #[]) := (g2.cell (p := ⟨w.heap.size + 1, 0, none⟩) (by simp; omega)).trans HF.out.2.2.2.1
                have hnb : W.cell? ⟨wo.heap.size, 0, none⟩ = some (.int .i64 m) := (g2.cell (p := ⟨wo.heap.size, 0, none⟩) (by simp)).trans HF.out.2.1.cell
                have hnow : SixIs W (w.heap.size + 1 + 1) 129 (org c m) := HF.out.2.2.1.below g2 (by omega)
                have hmn : m < c.nights.length := by omega
                have HG := Lib.hid (And.intro g1 (And.intro g2 (And.intro g3 (And.intro g4 (And.intro g5 (And.intro g6 hnow))))))
                have HDW := Lib.hid hdW
                have hsn := orgStep_snoc c m (org c m) (vals pre) x.1
                have HSN := Lib.hid hsn
                clear g1 g2 g3 g4 g5 g6 hdW hnow hW0 hsn
                cases hfull : fullB c x.1 m
                · gi_wp2_with (refine ⟨trivial, ?_⟩; gi_at_call 88; refine (CallsIn.inRound l (callsIn_wide.2 (dfull_as hfull p W HDW.out hxn hmn))).mono ?_; rintro e w5 ⟨rfl, hb5⟩)
                  obtain ⟨g1, g2, g3, g4, g5, g6, hnow⟩ := HG.out
                  refine ⟨⟨hb5.size, fun k o _ hk _ => (hb5.block k (Array.getElem?_eq_some_iff.1 hk).1).trans hk⟩, hb5.cell (p := ⟨W3.heap.size, 0, none⟩) (by have := g3.lt; simpa using this), ?_, ?_, (hb5.block _ g3.lt).trans g3, (hb5.block _ g4.lt).trans g4, g5.below hb5 g6, Nat.le_trans g6 hb5.size⟩
                  · rw [vals_snoc, HSN.out, hfull, if_neg (by simp)]
                    exact g1.below hb5 (by omega)
                  · exact g2.trans (hb5.mono (by omega))
                · gi_wp2_with (refine ⟨trivial, ?_⟩; gi_at_call 88; refine (CallsIn.inRound l (callsIn_wide.2 (dfull_as hfull p W HDW.out hxn hmn))).mono ?_; rintro e w5 ⟨rfl, hb5⟩)
                  obtain ⟨g1, g2, g3, g4, g5, g6, hnow⟩ := HG.out
                  have n1 : SixIs w5 (wo.heap.size + 1) 129 (fun j => if j < h then org c (m + 1) j else if j = h then orgStep c m (org c m) (vals pre) else 0) := g1.below hb5 (by omega)
                  have n2 : SixIs w5 (w.heap.size + 1 + 1) 129 (org c m) := hnow.below hb5 (by omega)
                  have hc1 : w5.cell? ⟨wi.heap.size, 0, none⟩ = some (.int .i64 h) := (hb5.cell (p := ⟨wi.heap.size, 0, none⟩) (by have := g4.lt; simpa using this)).trans g4.cell
                  have hc2 : w5.cell? ⟨wo.heap.size + 1, h, none⟩ = some (.int .i64 (orgStep c m (org c m) (vals pre))) := by have := n1.cell h hh6; rw [if_neg (Nat.lt_irrefl _), if_pos rfl] at this; exact this
                  have hf2 := n1.free h
                  have hc3 := n2.cell x.1 hx6
                  have ho := bits_orN (orgStep_lt (c := c) (k := m) (org_lt c o2 m) (vals pre)) (org_lt c o2 m x.1)
                  have hx6i : ((x.1 : Nat) : Int) < 6 := by omega
                  have HN1 := Lib.hid n1; have HB5 := Lib.hid hb5
                  clear g1 g2 g3 g4 g5 g6 hnow n1 n2 hb5 hfn hnb
                  gi_wp2_with fail
                  gi_region
                  all_goals
                    gi_wp2_with fail
                    obtain ⟨g1, g2, g3, g4, g5, g6, hnow⟩ := HG.out
                    have hb5 := HB5.out
                    have hbs : Below (wo.heap.size + 1) W4 ((w5.setCell ⟨wo.heap.size + 1, h, none⟩ (.int .i64 (orN (orgStep c m (org c m) (vals pre)) (org c m x.1)))).drew) := ((g2.trans (hb5.mono (by omega))).setCell (by simp) _).drew
                    have hne1 : W3.heap.size ≠ wo.heap.size + 1 := by omega
                    have hne2 : wi.heap.size ≠ wo.heap.size + 1 := by omega
                    have hszs := size_setd w5 ⟨wo.heap.size + 1, h, none⟩ (.int .i64 (orN (orgStep c m (org c m) (vals pre)) (org c m x.1)))
                    have hb5s := hb5.size
                    refine ⟨⟨by omega, fun k o hk hok _ => (Below.heap_setCell _ _ _ _ (by simp; omega)).trans ((hb5.block k (Array.getElem?_eq_some_iff.1 hok).1).trans hok)⟩, ?_, ?_, hbs, (Below.heap_setCell _ _ _ _ hne1).trans ((hb5.block _ g3.lt).trans g3), (Below.heap_setCell _ _ _ _ hne2).trans ((hb5.block _ g4.lt).trans g4), ?_, by omega⟩
                    · exact (World.cell?_of_block (w := w5) (Below.heap_setCell _ _ _ _ hne1)).trans (hb5.cell (p := ⟨W3.heap.size, 0, none⟩) g3.lt)
                    · rw [vals_snoc, HSN.out, hfull, if_pos rfl]
                      exact (HN1.out.set h _ hh6).congr (fun j hj => by
                        by_cases e1 : j = h
                        · subst e1; simp
                        · by_cases e2 : j < h
                          · simp [e1, e2]
                          · simp [e1, e2])
                    · exact (g5.below hb5 g6).kept (fun D _ hD => (Below.heap_setCell _ _ _ _ (fun e => by rw [e] at hD; rw [show w5.heap[wo.heap.size + 1]? = _ from HN1.out] at hD; cases hD)).trans hD)
              case done =>
                rintro D ys W hD hys ⟨g1, g2, g3, g4, g5, g6⟩ hK
                have hDlt := (Array.getElem?_eq_some_iff.1 hK).1
                have s2 : SixIs W (wo.heap.size + 1) 129 (fun j => if j < h + 1 then org c (m + 1) j else 0) := g1.congr (fun j hj => by
                  by_cases e1 : j < h
                  · rw [if_pos e1, if_pos (by omega)]
                  · by_cases e2 : j = h
                    · rw [if_neg e1, if_pos e2, if_pos (by omega), e2, hys]; conv => rhs; unfold org
                      rw [if_pos hlh]
                    · rw [if_neg e1, if_neg e2, if_neg (by omega)])
                have b2 : Below (wo.heap.size + 1) W2 W := (HBI.out.trans (HF.out.2.2.2.2.2.2.2.2.mono (by omega))).trans g2
                have m2 : MarksLt (w.heap.size + 1) W.heap.size ({ target := .collected D, args := #[] } :: ds) W := g5.cons hD (by omega) hDlt hK
                have HS := Lib.hid (And.intro s2 (And.intro b2 m2))
                clear g1 g2 g3 g4 g5 g6 hK s2 b2 m2 hys
                gi_wp2_with fail
                refine ⟨⟨h + 1, _, _, _, _, _, _, _, _, _, _, _, _, _, _, _, _, _, _, _, _, _, _, _, _, _, _, _, _, _, _, _, _, _, _, _, _, _, _, _, _, _, _, _, _, _, _, _, _, _, _, _, _, _, _, _, _, rfl, by omega, HS.out.1, HS.out.2.1, HS.out.2.2⟩, ?_⟩
                simp [intOf]; omega
              case stop =>
                rintro D e pre W _ _ h _
                exact h.elim
            · have hs2 := HX2.out.2.2
              have hs3 := HX.out.1
              have q2 := HBO.out.size
              have hnow2 : SixIs wi (w.heap.size + 1 + 1) 129 (org c m) := (HNOW.out.below HB2.out (by omega)).below HBI.out (by omega)
              have hnx : SixIs wi (wo.heap.size + 1) 129 (org c (m + 1)) := HNX.out.congr (fun j hj => by
                by_cases e : j < h
                · rw [if_pos e]
                · rw [if_neg e]; unfold org; rw [if_neg (by omega)])
              obtain ⟨x0, x1, x2, x3, x4, x5⟩ := hnx.cells
              obtain ⟨y0, y1, y2, y3, y4, y5⟩ := hnow2.cells
              obtain ⟨z0, z1, z2, z3, z4, z5⟩ := hnow2.frees
              have HNW := Lib.hid hnow2; clear hnow2 hnx hs2 hs3 q2
              gi_wp2_with fail
              have hsc := size_copy wi (w.heap.size + 1 + 1) (.int .i64 (org c (m + 1) 0)) (.int .i64 (org c (m + 1) 1)) (.int .i64 (org c (m + 1) 2)) (.int .i64 (org c (m + 1) 3)) (.int .i64 (org c (m + 1) 4)) (.int .i64 (org c (m + 1) 5))
              have hs2 := HX2.out.2.2
              have hs3 := HX.out.1
              have q2 := HBO.out.size
              have q3 := HBI.out.size
              have hW1 : Below (w.heap.size + 1 + 1) W1 wi := (HBO.out.trans (HB2.out.mono (by omega))).trans (HBI.out.mono (by omega))
              refine ⟨⟨m + 1, _, _, _, _, _, _, _, _, _, _, _, _, _, _, _, _, _, _, _, _, _, _, _, _, _, _, _, _, _, _, _, _, _, _, _, _, _, _, _, _, _, _, _, _, _, _, _, _, _, _, _, _, _, _, _, _, _, _, _, ds, rfl, by omega, HNW.out.copy (org c (m + 1)), hW1.trans (below_copy wi (Nat.le_refl _) _ _ _ _ _ _), by rw [hsc]; omega, by rw [hsc]; exact HMK.out.copy HNW.out _ _ _ _ _ _⟩, ?_⟩
              simp [intOf]; omega
        · have hsz3 := HX.out.1
          obtain ⟨x0, x1, x2, x3, x4, x5⟩ := HNOW.out.cells
          have hres : SixIs wo w.heap.size 129 (fun _ => 0) := HX.out.2.2.2.below HBO.out (by omega)
          obtain ⟨y0, y1, y2, y3, y4, y5⟩ := hres.cells
          obtain ⟨z0, z1, z2, z3, z4, z5⟩ := hres.frees
          have HRES := Lib.hid hres; clear hres hsz3
          gi_wp2_with fail
          have hmN : m = N := by omega
          have hbs : Below w.heap.size w wo := HB3.out.trans (HBO.out.mono (by omega))
          refine ret_marks (HMK.out.copy HRES.out _ _ _ _ _ _) (fun W' hW' => ?_)
          have hsix := (HRES.out.copy (org c m)).below hW' (Nat.lt_succ_self _)
          obtain ⟨r0, r1, r2, r3, r4, r5⟩ := hsix.cells
          have hfin := (hbs.trans (below_copy wo (Nat.le_refl _) _ _ _ _ _ _)).trans (hW'.mono (Nat.le_succ _))
          refine ⟨.agg (six (org c N)), ?_, rfl, hfin⟩
          rw [← hmN]
          simp [results, Tryz.results89, go_sem, r0, r1, r2, r3, r4, r5, six]
end Go.Proofs.YtnhifinfjfpoiaaGreat

namespace Go.Proofs.YtnhifinfjfpoiaaGreat
open Go.RowKit
set_option linter.unusedVariables false

def natsI (l : List Nat) : List Int := l.map fun h : Nat => (h : Int)
theorem natsI_len (l : List Nat) : (natsI l).length = l.length := by simp [natsI]
theorem natsV_len (l : List Nat) : (natsV l).length = l.length := by simp [natsV]
theorem natsI_i64 {l : List Nat} (h : ∀ x ∈ l, x < 9223372036854775807) : ∀ x ∈ natsI l, I64 x := by
  intro x hx
  obtain ⟨y, hy, rfl⟩ := List.mem_map.1 hx
  have := h y hy
  exact ⟨by omega, by omega⟩
theorem nth_natsI (l : List Nat) (j : Nat) : Value.int .i64 (nth (natsI l) j) = (natsV l).getD j (.int .i64 0) := by
  unfold nth natsI natsV
  rw [List.getD_eq_getElem?_getD, List.getD_eq_getElem?_getD, List.getElem?_map, List.getElem?_map]
  cases l[j]? <;> rfl
/-- A list of its own is a list that is read. -/
theorem ints_of_owns {w : World} {b e : Nat} {v : Value} {l : List Nat} (h : w.ownsRow b e 1 v l.length (natsV l)) (hl : ∀ x ∈ l, x < 9223372036854775807) (hlen : l.length ≤ 140737488355328) : IsInts w w.heap.size v (natsI l) := by
  refine ⟨?_, natsI_i64 hl⟩
  rw [natsI_len]
  have hlt := h.lt
  obtain ⟨_, h | ⟨g, cap, cur, rfl, hg, hc, hn, hm, hs, ht⟩⟩ := h
  · obtain ⟨rfl, hn⟩ := h
    exact ⟨none, 0, by rw [hn], by omega, hlen, .inl hn⟩
  · have _ := hm
    refine ⟨some ⟨g, 0, none⟩, cap, rfl, hn, hlen, .inr ⟨g, 0, rfl, (hlt g rfl).2, fun j hj => ?_⟩⟩
    show _ = some (Value.int .i64 (nth (natsI l) j))
    rw [nth_natsI]
    have h1 := cell_of_row w g (0 + j) _ _ _ hc
    refine h1.trans ?_
    rw [Nat.mul_one] at ht hj
    have h2 : cur.toList[j]? = (natsV l)[j]? := by
      rw [← ht, List.getElem?_take, if_pos hj]
    rw [Nat.zero_add, ← Array.getElem?_toList, h2, List.getD_eq_getElem?_getD]
    have h3 : j < (natsV l).length := by rw [natsV_len]; exact hj
    rw [List.getElem?_eq_getElem h3]
    rfl
theorem members_lt (m : Nat) : ∀ x ∈ members m, x < 6 := fun x hx => List.mem_range.1 (List.mem_filter.1 hx).1
theorem members_i64 (m : Nat) : ∀ x ∈ members m, x < 9223372036854775807 := fun x hx => Nat.lt_trans (members_lt m x hx) (by decide)
theorem members_len (m : Nat) : (members m).length ≤ 6 := by
  unfold members; exact Nat.le_trans (List.length_filter_le _ _) (by simp)
theorem list_any (m : Nat) (hm : m < 64) (w : World) : Calls Tryz.prog 44 #[.int .i64 m] w fun e W' => ∃ v, e = .returned v ∧ IsInts W' W'.heap.size v (natsI (members m)) ∧ Below w.heap.size w W' :=
  (callsIn_wide (n := 9)).1 ((list_in Fence.wide 9 m hm trivial trivial trivial trivial rfl (by decide) w).mono (by
    rintro e w' ⟨v, rfl, h, hb⟩
    exact ⟨v, rfl, ints_of_owns h (members_i64 m) (Nat.le_trans (members_len m) (by decide)), hb⟩))

theorem origins_as (c : Col) (p : Nat) (x : Int) (N : Nat) (hx : x = N) (w : World) (hd : Desk w p c) (hN : N ≤ c.nights.length) :
    Calls Tryz.prog 89 #[.pointer (some ⟨p, 0, none⟩), .int .i64 x] w fun e w' => e = .returned (.agg (six (org c N))) ∧ Below w.heap.size w w' := by
  rw [hx]; exact origins_any c p N w hd hN

set_option maxRecDepth 100000 in
theorem six_index (f : Nat → Nat) (h : Nat) (hh : h < 6) (w : World) : Sem.run Tryz.prog (Instr.index 129 (.agg (six f)) (.int .i64 h)) w = .ok (.int .i64 (f h)) w := by
  match h, hh with
  | 0, _ => rfl
  | 1, _ => rfl
  | 2, _ => rfl
  | 3, _ => rfl
  | 4, _ => rfl
  | 5, _ => rfl
theorem Origins_bad (c : Col) (r t u n : Value) (h m : Int) (w : World) (hc : ColAt w w.heap.size r t u n c) (hk : ¬ askedErr c h m = 0) :
    Calls Tryz.prog 27 #[.agg #[r, t, u, n], .int .i64 h, .int .i64 m] w fun e w' => e = .returned (.tuple #[.slice none 0 0, .int .i64 (askedErr c h m)]) ∧ Below w.heap.size w w' := by
  have hBW := (Below.refl w.heap.size w).alloc (Nat.le_refl _) (.cells #[r, t, u, n] 26)
  have HCK := Lib.hid (asked_bad c r t u n h m _ ((hc.below hBW (Nat.le_refl _)).mono (by simp)) hk)
  obtain ⟨hr, htr, hu, hn⟩ := hc
  obtain ⟨ar, cr, rfl, _, _, _⟩ := hr.open
  obtain ⟨at_, ct, rfl, _, _, _⟩ := htr.open
  obtain ⟨au, cu, rfl, _, _, _⟩ := hu.open
  obtain ⟨an, cn, rfl, _, _, _⟩ := hn.open
  have HB := Lib.hid hBW
  have hk1 : (askedErr c h m == 0) = false := by simpa using hk
  have hk2 : (askedErr c h m != 0) = true := by simp [bne, hk1]
  clear hr htr hu hn hBW hk
  go_enter Tryz.func27, Tryz.ntmps27
  go_wp2_with fail
  refine HCK.out.mono ?_
  rintro e w1 ⟨rfl, hb1⟩
  go_wp2_with fail
  go_ret2
  exact ⟨rfl, HB.out.trans (hb1.mono (by simp))⟩

set_option maxRecDepth 100000 in
theorem Origins_good (c : Col) (r t u n : Value) (h m : Int) (w : World) (hc : ColAt w w.heap.size r t u n c) (hk : askedErr c h m = 0) :
    Calls Tryz.prog 27 #[.agg #[r, t, u, n], .int .i64 h, .int .i64 m] w fun e w' => ∃ v, e = .returned (.tuple #[v, .int .i64 0]) ∧ IsInts w' w'.heap.size v (natsI (members (org c m.toNat h.toNat))) ∧ Below w.heap.size w w' := by
  have hBW := (Below.refl w.heap.size w).alloc (Nat.le_refl _) (.cells #[r, t, u, n] 26)
  have HCK := Lib.hid (asked_good c r t u n h m _ ((hc.below hBW (Nat.le_refl _)).mono (by simp)) hk)
  obtain ⟨k0, H, M, rfl, rfl, k1, k2⟩ := asked_in hk
  obtain ⟨hr, htr, hu, hn⟩ := hc
  obtain ⟨ar, cr, rfl, _, _, _⟩ := hr.open
  obtain ⟨at_, ct, rfl, _, _, _⟩ := htr.open
  obtain ⟨au, cu, rfl, _, _, _⟩ := hu.open
  obtain ⟨an, cn, rfl, _, _, _⟩ := hn.open
  have HB := Lib.hid hBW
  clear hr htr hu hn hBW
  go_enter Tryz.func27, Tryz.ntmps27
  go_wp2_with fail
  refine HCK.out.mono ?_
  rintro e w1 ⟨p, rfl, hb1, hd⟩
  obtain ⟨o1, o2⟩ := k0.houses
  have h6 : (H : Int) < 6 := by omega
  have H6 : c.rooms.length ≤ 6 := by omega
  have HX := Lib.hid (And.intro k0 hb1); clear k0 hb1
  have hlt := org_lt c H6 M H
  have hsi := six_index (org c M) H (by omega)
  go_wp2_with (first | (go_at_call 44; refine (list_any _ hlt _).mono ?_; rintro e w3 ⟨v, rfl, hv, hb3⟩) | go_at_call 89; refine (origins_any c p M _ hd (by omega)).mono ?_; rintro e w2 ⟨rfl, hb2⟩)
  go_ret2
  exact ⟨v, rfl, hv, (HB.out.trans (HX.out.2.mono (by simp))).trans ((hb2.mono (Nat.le_trans (HB.out.size) (HX.out.2.size))).trans (hb3.mono (Nat.le_trans (HB.out.size) (Nat.le_trans HX.out.2.size hb2.size))))⟩

theorem dfull_at {c : Col} {h m : Nat} {v : Bool} (hv : fullB c h m = v) (p : Nat) (w : World) (x : Int) (hx : x = m) (hd : Desk w p c) (hh : h < c.rooms.length) (hm : m < c.nights.length) :
    Calls Tryz.prog 88 #[.pointer (some ⟨p, 0, none⟩), .int .i64 h, .int .i64 x] w fun e w' => e = .returned (.bool v) ∧ Below w.heap.size w w' := by
  rw [hx]; exact dfull_as hv p w hd hh hm
/-- From which houses can a rat have come that is left in house h after the last night? -/
def leftC (c : Col) (h : Nat) : Nat := if h < c.rooms.length ∧ 0 < c.nights.length ∧ fullB c h (c.nights.length - 1) = false then 0 else org c (c.nights.length - 1) h

set_option maxRecDepth 100000 in
set_option maxHeartbeats 2000000 in
theorem left_any (c : Col) (p : Nat) (w : World) (hd : Desk w p c) :
    Calls Tryz.prog 93 #[.pointer (some ⟨p, 0, none⟩)] w fun e w' => e = .returned (.agg (six (leftC c))) ∧ Below w.heap.size w w' := by
  have hplt := hd.1
  have ok := hd.2.1
  obtain ⟨o1, o2⟩ := ok.houses
  have H6 : c.rooms.length ≤ 6 := by omega
  have o3 := ok.nights
  have hb1 : Below w.heap.size w (w.alloc (.cells #[.int .i64 0, .int .i64 0, .int .i64 0, .int .i64 0, .int .i64 0, .int .i64 0] 129)) := (Below.refl _ w).alloc (Nat.le_refl _) _
  have HD := Lib.hid hd
  obtain ⟨ar, cr, at_, ct, au, cu, an, cn, ⟨c0, c1, c2, c3⟩, hnear, hcol⟩ := (hd.below hb1).open
  have HB1 := Lib.hid hb1
  clear hd hnear hcol ok hb1
  go_enter Tryz.func93, Tryz.ntmps93
  have HO : ∀ x : Int, x = ((c.nights.length - 1 : Nat) : Int) → Calls Tryz.prog 89 #[.pointer (some ⟨p, 0, none⟩), .int .i64 x] (w.alloc (.cells #[.int .i64 0, .int .i64 0, .int .i64 0, .int .i64 0, .int .i64 0, .int .i64 0] 129)) fun e w' => e = .returned (.agg (six (org c (c.nights.length - 1)))) ∧ Below (w.heap.size + 1) (w.alloc (.cells #[.int .i64 0, .int .i64 0, .int .i64 0, .int .i64 0, .int .i64 0, .int .i64 0] 129)) w' := by
    intro x hx
    exact (origins_as c p x _ hx _ (HD.out.below HB1.out) (by omega)).mono (by rintro e w' ⟨rfl, hb⟩; exact ⟨rfl, hb.mono (by simp)⟩)
  go_wp2_with fail
  all_goals refine (HO _ (by omega)).mono ?_
  all_goals rintro e w1 ⟨rfl, hb1⟩
  all_goals simp only [six]
  all_goals
    have hd1 : Desk w1 p c := HD.out.below (HB1.out.trans (hb1.mono (by omega)))
    have hbA := (Below.refl w1.heap.size w1).alloc (Nat.le_refl _) (.cells (six (org c (c.nights.length - 1))) 129)
    have hd2 := hd1.below hbA
    have hs2 : SixIs (w1.alloc (.cells (six (org c (c.nights.length - 1))) 129)) w1.heap.size 129 (org c (c.nights.length - 1)) := heap_alloc_new _ _
    have hz2 : SixIs (w1.alloc (.cells (six (org c (c.nights.length - 1))) 129)) w.heap.size 129 (fun _ => 0) := (hbA.block _ (Nat.lt_of_lt_of_le (by simp) hb1.size)).trans ((hb1.block _ (by omega)).trans (heap_alloc_new w _))
    have hle2 : w.heap.size < w1.heap.size := Nat.lt_of_lt_of_le (by simp) hb1.size
    have hb2 : Below w.heap.size w (w1.alloc (.cells (six (org c (c.nights.length - 1))) 129)) := (HB1.out.trans (hb1.mono (by omega))).trans (hbA.mono (by omega))
    have hlt1 : w1.heap.size < (w1.alloc (.cells (six (org c (c.nights.length - 1))) 129)).heap.size := by simp
    have HX := Lib.hid (And.intro hs2 (And.intro hz2 (And.intro hb2 (And.intro hd1 (And.intro hbA hlt1)))))
    obtain ⟨ar', cr', at', ct', au', cu', an', cn', ⟨d0, d1, d2, d3⟩, hnear, hcol⟩ := hd2.open
    clear hlt1 hd1 hbA hd2 hs2 hz2 hb2 hnear hcol c0 c1 c2 c3
    unfold six at d0 d1 d2 d3
  all_goals go_wp2_with fail
  all_goals
    obtain ⟨W2, hW2⟩ : ∃ W2, (w1.alloc (.cells (six (org c (c.nights.length - 1))) 129)) = W2 := ⟨_, rfl⟩
    unfold six at hW2
    rw [hW2] at d0 d1 d2 d3 ⊢
    have hx := HX.out
    rw [show (w1.alloc (.cells (six (org c (c.nights.length - 1))) 129)) = W2 from hW2] at hx
    have HX2 := Lib.hid hx
    clear hx hW2 HX
    go_loopw [23] (fun i wr => ∃ k : Nat, k ≤ c.rooms.length ∧ i = .int .i64 k ∧ Hid (SixIs wr w1.heap.size 129 (fun j => if j < k then leftC c j else org c (c.nights.length - 1) j)) ∧ Hid (Below w1.heap.size W2 wr)) (fun i _ => c.rooms.length - (intOf i).toNat)
    case atStart => exact ⟨0, Nat.zero_le _, rfl, HX2.out.1, Below.refl _ _⟩
    case round =>
      obtain ⟨k, hk, rfl, hsix, hbr⟩ := hrel
      by_cases hlt : k < c.rooms.length
      · have hk6i : (k : Int) < 6 := by omega
        have hfr := hsix.out.free k
        have hd3 : Desk wr p c := HX2.out.2.2.2.1.below (HX2.out.2.2.2.2.1.trans hbr.out)
        obtain ⟨f0, f1, f2, f3⟩ := Box4.below (w := W2) ⟨d0, d1, d2, d3⟩ hbr.out (by omega)
        have HD3 := Lib.hid hd3; clear hd3
        have HSZ := Lib.hid (And.intro HX2.out.2.2.2.2.2 hbr.out.size)
        by_cases hl : 0 < c.nights.length
        · try (exfalso; omega)
          all_goals
            have hge : (0 : Int) ≤ (c.nights.length : Int) - 1 := by omega
            have hel : (c.nights.length : Int) - 1 = ((c.nights.length - 1 : Nat) : Int) := by omega
            have HEL := Lib.hid hel
            clear hel
            cases hf : fullB c k (c.nights.length - 1)
            · have HC := Lib.hid (dfull_at hf p wr _ HEL.out HD3.out hlt (by omega))
              have HF := Lib.hid hf; clear hf
              go_wp2_with fail
              all_goals
                refine HC.out.mono ?_
                rintro e W3 ⟨rfl, hb3⟩
                have hs3 : SixIs W3 w1.heap.size 129 _ := hsix.out.below hb3 (by have := HSZ.out; omega)
                have hbr3 := hbr.out.trans (hb3.mono (by have := HSZ.out; omega))
                have hfr := hs3.free k
                have hcl := hs3.cell k (by omega)
                have HS3 := Lib.hid (And.intro hs3 hbr3); clear hs3 hbr3 hb3
                go_wp2_with fail
                go_roundw
                case rel =>
                  refine ⟨k + 1, by omega, by go_num, (HS3.out.1.set k 0 (by omega)).congr (fun j hj => ?_), HS3.out.2.trans ((Below.refl w1.heap.size W3).setCell (p := ⟨w1.heap.size, k, none⟩) (Nat.le_refl _) _)⟩
                  by_cases e1 : j = k
                  · rw [if_pos e1, e1, if_pos (by omega)]; unfold leftC; rw [if_pos ⟨hlt, hl, HF.out⟩]
                  · rw [if_neg e1]
                    by_cases e2 : j < k
                    · rw [if_pos e2, if_pos (by omega)]
                    · rw [if_neg e2, if_neg (by omega)]
                case measure => simp [intOf]; omega
            · have HC := Lib.hid (dfull_at hf p wr _ HEL.out HD3.out hlt (by omega))
              have HF := Lib.hid hf; clear hf
              go_wp2_with fail
              all_goals
                refine HC.out.mono ?_
                rintro e W3 ⟨rfl, hb3⟩
                have hs3 : SixIs W3 w1.heap.size 129 _ := hsix.out.below hb3 (by have := HSZ.out; omega)
                have hbr3 := hbr.out.trans (hb3.mono (by have := HSZ.out; omega))
                have HS3 := Lib.hid (And.intro hs3 hbr3); clear hs3 hbr3 hb3
                go_wp2_with fail
                go_roundw
                case rel =>
                  refine ⟨k + 1, by omega, by go_num, HS3.out.1.congr (fun j hj => ?_), HS3.out.2⟩
                  by_cases e1 : j = k
                  · rw [if_neg (by omega), if_pos (by omega), e1]; unfold leftC; rw [if_neg (fun h => by rw [HF.out] at h; cases h.2.2)]
                  · by_cases e2 : j < k
                    · rw [if_pos e2, if_pos (by omega)]
                    · rw [if_neg e2, if_neg (by omega)]
                case measure => simp [intOf]; omega
        · try (exfalso; omega)
          all_goals
            have hge : ¬ (0 : Int) ≤ (c.nights.length : Int) - 1 := by omega
            go_wp2_with fail
            all_goals
              go_roundw
              case rel =>
                refine ⟨k + 1, by omega, by go_num, hsix.out.congr (fun j hj => ?_), hbr.out⟩
                by_cases e1 : j = k
                · rw [if_neg (by omega), if_pos (by omega), e1]; unfold leftC; rw [if_neg (fun h => hl h.2.1)]
                · by_cases e2 : j < k
                  · rw [if_pos e2, if_pos (by omega)]
                  · rw [if_neg e2, if_neg (by omega)]
              case measure => simp [intOf]; omega
      · have hkk : k = c.rooms.length := by omega
        have hs4 : SixIs wr w1.heap.size 129 (leftC c) := hsix.out.congr (fun j hj => by
          by_cases e2 : j < k
          · rw [if_pos e2]
          · rw [if_neg e2]; unfold leftC; rw [if_neg (fun h => by omega)])
        have hz4 : SixIs wr w.heap.size 129 (fun _ => 0) := HX2.out.2.1.below hbr.out hle2
        obtain ⟨x0, x1, x2, x3, x4, x5⟩ := hs4.cells
        obtain ⟨y0, y1, y2, y3, y4, y5⟩ := hz4.cells
        obtain ⟨z0, z1, z2, z3, z4, z5⟩ := hz4.frees
        have HS4 := Lib.hid (And.intro hs4 hz4); clear hs4 hz4
        go_wp2_with fail
        have hsz := HX2.out.2.2.2.2.2
        have hszr := hbr.out.size
        obtain ⟨r0, r1, r2, r3, r4, r5⟩ := (HS4.out.2.copy (leftC c)).cells
        refine bodyPost_ret (v := .agg (six (leftC c))) (by simp [results, Tryz.results93, go_sem, r0, r1, r2, r3, r4, r5, six]) rfl ⟨rfl, ?_⟩
        exact (HX2.out.2.2.1.trans (hbr.out.mono (by omega))).trans (below_copy wr (Nat.le_refl _) _ _ _ _ _ _)
end Go.Proofs.YtnhifinfjfpoiaaGreat

namespace Go.Proofs.YtnhifinfjfpoiaaGreat
open Go.RowKit
set_option linter.unusedVariables false

/-- Where a rat can be in a night that has come from a house. -/
def comeB (c : Col) (f : Nat) : Nat → Nat → Bool
  | 0, b => b == f
  | n + 1, b => anyB (fun a => comeB c f n a && fullB c a n && goesB c a b) c.rooms.length
theorem nearC_bit {c : Col} {h o : Nat} (hh : h < c.rooms.length) (ho : o < 6) : (nearC c h).testBit o = goesB c h o := by
  unfold nearC; rw [if_pos hh, maskOf_bit _ o ho]
theorem goesB_symm (c : Col) (a b : Nat) : goesB c a b = goesB c b a := by
  unfold goesB goesI
  have h1 : ∀ i, joinsB (nthP c.runs i) a b = joinsB (nthP c.runs i) b a := fun i => by
    unfold joinsB
    rw [Bool.or_comm]
  have h2 : ((a : Int) == (b : Int)) = ((b : Int) == (a : Int)) := by rw [Bool.eq_iff_iff]; simp; exact ⟨Eq.symm, Eq.symm⟩
  simp only [h1, h2]
theorem mem_members {m o : Nat} : o ∈ members m ↔ o < 6 ∧ m.testBit o = true := by unfold members; simp
theorem orgStep_bit (c : Col) (k : Nat) (prev : Nat → Nat) (o : Nat) : ∀ l : List Nat, (orgStep c k prev l).testBit o = l.any (fun f => fullB c f k && (prev f).testBit o) := by
  have key : ∀ (l : List Nat) (a : Nat), (l.foldl (fun acc f => if fullB c f k then orN acc (prev f) else acc) a).testBit o = (a.testBit o || l.any (fun f => fullB c f k && (prev f).testBit o)) := by
    intro l
    induction l with
    | nil => intro a; simp
    | cons f l ih =>
      intro a
      rw [List.foldl_cons, ih, List.any_cons]
      cases hf : fullB c f k
      · simp
      · simp [orN_bit, Bool.or_assoc]
  intro l
  unfold orgStep
  rw [key l 0]; simp
/-- From house f one comes to house h in night k: as the program's masks say it, and as the reference's lists. -/
theorem org_come {c : Col} (ok : OkCol c) : ∀ (k h f : Nat), h < c.rooms.length → f < c.rooms.length → k ≤ c.nights.length → (org c k h).testBit f = comeB c f k h
  | 0, h, f, hh, hf, _ => by
    unfold org comeB
    rw [if_pos hh, pw_bit]
  | k + 1, h, f, hh, hf, hk => by
    have o2 := ok.houses.2
    unfold org comeB
    rw [if_pos hh, orgStep_bit, Bool.eq_iff_iff, List.any_eq_true]
    unfold anyB
    rw [List.any_eq_true]
    constructor
    · rintro ⟨a, ha, h1⟩
      obtain ⟨ha6, hab⟩ := mem_members.1 ha
      have han : a < c.rooms.length := by
        rw [nearC_bit hh ha6] at hab
        rw [← nearC_bit hh ha6] at hab
        exact near_in ok hh ha6 hab
      rw [nearC_bit hh ha6, goesB_symm] at hab
      simp only [Bool.and_eq_true] at h1
      rw [org_come ok k a f han hf (by omega)] at h1
      exact ⟨a, List.mem_range.2 han, by simp [h1.1, h1.2, hab]⟩
    · rintro ⟨a, ha, h1⟩
      have han := List.mem_range.1 ha
      simp only [Bool.and_eq_true] at h1
      refine ⟨a, mem_members.2 ⟨by omega, by rw [nearC_bit hh (by omega), goesB_symm]; exact h1.2⟩, ?_⟩
      rw [org_come ok k a f han hf (by omega), h1.1.1, h1.1.2]; rfl
theorem org_only {c : Col} (ok : OkCol c) : ∀ (k h f : Nat), (org c k h).testBit f = true → f < c.rooms.length
  | 0, h, f, e => by
    unfold org at e
    split at e
    · rw [pw_bit] at e; have := eq_of_beq e; omega
    · simp at e
  | k + 1, h, f, e => by
    unfold org at e
    split at e
    · rw [orgStep_bit, List.any_eq_true] at e
      obtain ⟨a, _, h1⟩ := e
      simp only [Bool.and_eq_true] at h1
      exact org_only ok k a f h1.2
    · simp at e
end Go.Proofs.YtnhifinfjfpoiaaGreat
