/- Contract of slices.Contains over numbers. Contract of the question 'near' that RatGone asks: do two houses lie together, or is there a run between them? Maps keyed by pairs, of numbers (map[rat.spot]int): where a rat was the night before. What Way keeps and finds, in plain Lean. Contract of rat.Way. Plain law of RatGone: ways, and from which houses a rat has come. -/
import Derived.Test.YtnhifinfjfpoiaaK01
import Derived.Test.YtnhifinfjfpoiaaK10
import Derived.Test.YtnhifinfjfpoiaaK02
import Derived.Test.YtnhifinfjfpoiaaK05
import Derived.Test.YtnhifinfjfpoiaaK09
import Derived.Test.YtnhifinfjfpoiaaK06
namespace Go.Proofs.Ytnhifinfjfpoiaa
open Go.RowKit
set_option linter.unusedVariables false

def isAt (l : List Int) (x : Int) (i : Nat) : Bool := nth l i == x
set_option maxHeartbeats 1000000 in
theorem index_any (v : Value) (l : List Int) (x : Int) (w : World) (h : IsInts w w.heap.size v l) :
    Calls Try.prog 119 #[v, .int .i64 x] w fun e w' => e = .returned (.int .i64 (firstB (isAt l x) l.length 0)) ∧ w = w' := by
  obtain ⟨a, c, rfl, hc, hm, hcell⟩ := h.open
  have HX := Lib.hid hcell
  clear hcell h
  go_enter Try.func119, Try.ntmps119
  go_wp2_with fail
  go_loopw [8] (fun i wr => ∃ k : Nat, k ≤ l.length ∧ i = .int .i64 k ∧ Hid (∀ j, j < k → isAt l x j = false) ∧ w = wr) (fun i _ => l.length - (intOf i).toNat)
  case atStart => exact ⟨0, Nat.zero_le _, rfl, fun j hj => by omega, rfl⟩
  case round =>
    obtain ⟨k, hk, rfl, hno, rfl⟩ := hrel
    by_cases hlt : k < l.length
    · have hki : (k : Int) < l.length := by omega
      obtain ⟨b, off, rfl, _, hc1⟩ := HX.out k hlt
      obtain ⟨y, hy⟩ : ∃ y, nth l k = y := ⟨_, rfl⟩
      rw [hy] at hc1
      have HY := Lib.hid hy
      clear hy
      by_cases hp : x = y
      · have HP : Hid (isAt l x k = true) := by unfold Hid isAt; rw [HY.out, hp]; simp
        subst hp
        go_wp2_with fail
        go_ret
        exact ⟨ret_int (firstB_some (Nat.zero_le _) (by omega) (fun j _ h => hno.out j h) HP.out).symm, rfl⟩
      · have HP : Hid (isAt l x k = false) := by unfold Hid isAt; rw [HY.out]; simpa using fun h => hp h.symm
        go_wp2_with fail
        go_roundw
        case rel => exact ⟨k + 1, by omega, by go_num, fun j hj => by rcases Nat.lt_succ_iff_lt_or_eq.1 hj with h | h; exact hno.out j h; rw [h]; exact HP.out, by simp⟩
        case measure => simp [intOf]; omega
    · go_wp2_with fail
      go_ret
      exact ⟨ret_int (firstB_none (fun j _ h => hno.out j (by omega))).symm, rfl⟩
theorem contains_any (v : Value) (l : List Int) (x : Int) (w : World) (h : IsInts w w.heap.size v l) :
    Calls Try.prog 50 #[v, .int .i64 x] w fun e w' => e = .returned (.bool (anyB (isAt l x) l.length)) ∧ w = w' := by
  have hg := firstB_any (isAt l x) l.length 0
  have HG := Lib.hid hg; clear hg
  have HC := Lib.hid (index_any v l x w h)
  clear h
  go_enter Try.func50, Try.ntmps50
  go_wp2_with fail
  refine HC.out.mono ?_
  rintro e w1 ⟨rfl, rfl⟩
  go_wp2_with fail
  go_ret
  exact ⟨ret_bool HG.out, rfl⟩
end Go.Proofs.Ytnhifinfjfpoiaa

namespace Go.Proofs.Ytnhifinfjfpoiaa
open Go.RowKit
set_option linter.unusedVariables false
set_option linter.unusedSimpArgs false


theorem cell_lt' {w : World} {b o : Nat} {v : Value} (h : w.cell? ⟨b, o, none⟩ = some v) : b < w.heap.size := block_lt_of_cell h
theorem near1_any (b1 b2 : Nat) (x y a c : Int) (w : World) (h1 : w.cell? ⟨b1, 0, none⟩ = some (.int .i64 a)) (h2 : w.cell? ⟨b2, 0, none⟩ = some (.int .i64 c)) :
    Calls Try.prog 63 #[.agg #[.int .i64 x, .int .i64 y], .pointer (some ⟨b1, 0, none⟩), .pointer (some ⟨b2, 0, none⟩)] w fun e w' => e = .returned (.bool (joinsB (x, y) a c)) ∧ Below w.heap.size w w' := by
  have hbw : Below w.heap.size w (w.alloc (.cells #[.int .i64 x, .int .i64 y] 63)) := (Below.refl _ _).alloc (Nat.le_refl _) _
  have m1 := (hbw.cell (p := ⟨b1, 0, none⟩) (cell_lt' h1)).trans h1
  have m2 := (hbw.cell (p := ⟨b2, 0, none⟩) (cell_lt' h2)).trans h2
  have HB := Lib.hid hbw
  clear hbw h1 h2
  cases h1 : (x == a) <;> cases h2 : (y == c) <;> cases h3 : (x == c) <;> cases h4 : (y == a)
  all_goals
    have hj : joinsB (x, y) a c = ((x == a && y == c) || (x == c && y == a)) := rfl
    rw [hj, h1, h2, h3, h4]
    clear hj
    go_enter Try.func63, Try.ntmps63
    go_wp2_with fail
    go_ret
    exact ⟨ret_bool (by first | rfl | simp [*]), HB.out⟩
theorem anyB_near (rs : List (Int × Int)) (a c : Int) : anyB (fun i => joinsB (nthP rs i) a c) rs.length = anyB (fun i => joinsB ((nthP rs i).1, (nthP rs i).2) a c) rs.length := rfl
/-- Do two houses lie together? The closure's box is a colony. -/
theorem near_any (C : Col) (b5 : Nat) (r t u nn : Value) (a c : Int) (w : World) (hb : w.heap[b5]? = some (.cells #[r, t, u, nn] 26 (0, 0))) (hu : IsPairs w w.heap.size u C.runs) :
    Calls Try.prog 62 #[.int .i64 a, .int .i64 c, .pointer (some ⟨b5, 0, none⟩)] w fun e w' => e = .returned (.bool (goesI C a c)) ∧ Below w.heap.size w w' := by
  have hB0 : Below w.heap.size w ((w.alloc (.cells #[.int .i64 a] 3)).alloc (.cells #[.int .i64 c] 3)) := ((Below.refl _ _).alloc (Nat.le_refl _) _).alloc (by simp) _
  have hblt : b5 < w.heap.size := (Array.getElem?_eq_some_iff.1 hb).1
  obtain ⟨au, qu, rfl, _⟩ := hu.open
  have HU := Lib.hid ((hu.below hB0 (Nat.le_refl _)).mono hB0.size)
  have k2 : ((w.alloc (.cells #[.int .i64 a] 3)).alloc (.cells #[.int .i64 c] 3)).cell? ⟨b5, 2, none⟩ = some (.slice au C.runs.length qu) := (cell_of_row _ _ 2 _ _ _ ((hB0.block b5 hblt).trans hb)).trans rfl
  have m1 : ((w.alloc (.cells #[.int .i64 a] 3)).alloc (.cells #[.int .i64 c] 3)).heap[w.heap.size]? = some (.cells #[.int .i64 a] 3 (0, 0)) := keep _ (blk _ _ _ _ rfl)
  have m2 : ((w.alloc (.cells #[.int .i64 a] 3)).alloc (.cells #[.int .i64 c] 3)).heap[w.heap.size + 1]? = some (.cells #[.int .i64 c] 3 (0, 0)) := blk _ _ _ _ (by simp)
  obtain ⟨W0, hW0⟩ : ∃ W0, (w.alloc (.cells #[.int .i64 a] 3)).alloc (.cells #[.int .i64 c] 3) = W0 := ⟨_, rfl⟩
  rw [hW0] at HU k2 m1 m2 hB0
  have HB0 := Lib.hid hB0
  have HM := Lib.hid (And.intro m1 m2)
  have l1 := (cell_of_row _ _ 0 _ _ _ m1).trans rfl
  have l2 := (cell_of_row _ _ 0 _ _ _ m2).trans rfl
  clear hu hB0 m1 m2 hb
  by_cases e : a = c
  · subst e
    go_enter Try.func62, Try.ntmps62
    go_upto_region 1 with (fail)
    clear hW0
    go_wp2_with fail
    go_ret
    exact ⟨ret_bool (by simp [goesI]), HB0.out⟩
  · go_enter Try.func62, Try.ntmps62
    go_upto_region 1 with (fail)
    clear hW0
    go_wp2_with fail
    refine (containsRuns_any (.slice au C.runs.length qu) C.runs.length _ _ (fun i => joinsB (nthP C.runs i) a c) (pcell C.runs) W0 HU.out.1 ⟨Try.call63, fun i hi w' hw hB => ?_⟩).mono ?_
    · have e1 : (#[Value.agg #[pcell C.runs (i * 2), pcell C.runs (i * 2 + 1)]] ++ #[Value.pointer (some ⟨w.heap.size, 0, none⟩), Value.pointer (some ⟨w.heap.size + 1, 0, none⟩)]) = #[.agg #[.int .i64 (nthP C.runs i).1, .int .i64 (nthP C.runs i).2], .pointer (some ⟨w.heap.size, 0, none⟩), .pointer (some ⟨w.heap.size + 1, 0, none⟩)] := by
        have e1 : i * 2 % 2 = 0 := by omega
        have e2 : (i * 2 + 1) % 2 = 1 := by omega
        have e3 : i * 2 / 2 = i := by omega
        have e4 : (i * 2 + 1) / 2 = i := by omega
        simp [pcell, e1, e2, e3, e4]
      rw [e1]
      exact near1_any _ _ _ _ a c w' ((hw.cell (p := ⟨w.heap.size, 0, none⟩) (cell_lt' l1)).trans l1) ((hw.cell (p := ⟨w.heap.size + 1, 0, none⟩) (cell_lt' l2)).trans l2)
    · rintro e2 w1 ⟨rfl, hb1⟩
      go_wp2_with fail
      go_ret
      exact ⟨ret_bool (by simp [goesI, Bool.or_comm]), HB0.out.trans (hb1.mono HB0.out.size)⟩
end Go.Proofs.Ytnhifinfjfpoiaa

namespace Go.Proofs.Ytnhifinfjfpoiaa
open Go.RowKit Go.Maps
set_option linter.unusedVariables false

theorem spotKeyed : Keyed Try.prog 175 := Keyed.of_law (deep_law_gate (by kernel_rfl) (of_decide_eq_true (by kernel_rfl)) (of_decide_eq_true (by kernel_rfl)) (by kernel_rfl) (by kernel_rfl))
noncomputable def spotKey (p : Int × Int) : Lit := (keyOf Try.prog 175 (runVal p)).getD .nil
theorem spotCells : Try.prog.cellsOf 175 = 2 := by kernel_rfl
theorem spotKeyT : Try.prog.keyType 175 = true := by kernel_rfl
theorem keyLits_spot (m : Nat) (x y : Int) (hx : (Lit.int .i64 x).wf = true) (hy : (Lit.int .i64 y).wf = true) : Try.prog.keyLits (m + 2) 175 [.int .i64 x, .int .i64 y] = some [.int .i64 x, .int .i64 y] := by
  have e3 : ∀ z, (Lit.int .i64 z).wf = true → Try.prog.keyLits (m + 1) 3 [.int .i64 z] = some [.int .i64 z] := by
    intro z hz
    unfold Program.keyLits
    rw [Try.underlying3]
    simp [hz]
  unfold Program.keyLits
  rw [Try.underlying175]
  simp [spotCells, intCells, e3 x hx, e3 y hy]
theorem spotFormed (p : Int × Int) : (runVal p).formed Try.prog 175 = true := by
  unfold runVal Value.formed
  simp [Try.underlying175, spotCells]
theorem keyOf_spot (x y : Int) (hx : (Lit.int .i64 x).wf = true) (hy : (Lit.int .i64 y).wf = true) : keyOf Try.prog 175 (runVal (x, y)) = some (.string (keyBytes [.int .i64 x, .int .i64 y])) := by
  unfold keyOf
  rw [Try.underlying175, spotKeyT, spotFormed, typesSize]
  simp only [Bool.and_self, if_true]
  have := keyLits_spot (Try.prog.types.size - 1) x y hx hy
  unfold runVal Value.cells
  simp only []
  rw [this]
  rfl
theorem spotKey_of (p : Int × Int) (h1 : I64 p.1) (h2 : I64 p.2) : keyOf Try.prog 175 (runVal p) = some (spotKey p) := by
  obtain ⟨x, y⟩ := p
  unfold spotKey
  rw [keyOf_spot x y (wfI h1) (wfI h2)]
  simp only [Option.getD_some]
attribute [irreducible] spotKey
theorem spotKey_inj {p q : Int × Int} (hp1 : I64 p.1) (hp2 : I64 p.2) (hq1 : I64 q.1) (hq2 : I64 q.2) (h : spotKey p = spotKey q) : p = q := by
  have e := spotKeyed.inj (spotKey_of p hp1 hp2) (by rw [h]; exact spotKey_of q hq1 hq2)
  obtain ⟨a, b⟩ := p
  obtain ⟨c, d⟩ := q
  simp [runVal] at e
  exact Prod.ext e.1 e.2

/-- Block b is a map from spots to numbers, of at most n entries, that says what M says. -/
def SpotMap (w : World) (b n : Nat) (M : Int × Int → Option Int) : Prop :=
  ∃ D : DataW Unit, w.ownsMap Try.prog 175 (plainElem Try.prog 3) b n D ∧ ∀ p : Int × Int, I64 p.1 → I64 p.2 → Maps.has D (spotKey p) = (M p).isSome ∧ D.atKey (spotKey p) (.lit (.int .i64 0)) = .lit (.int .i64 ((M p).getD 0))
theorem SpotMap.made (w : World) : SpotMap (w.alloc (.map #[] 0)) w.heap.size 0 (fun _ => none) :=
  ⟨.map [], World.ownsMap_made _ _ _ _, fun p _ _ => ⟨rfl, rfl⟩⟩
theorem SpotMap.lt {w : World} {b n : Nat} {M : Int × Int → Option Int} (h : SpotMap w b n M) : b < w.heap.size := let ⟨_, h1, _⟩ := h; h1.lt
theorem SpotMap.mono {w : World} {b n n' : Nat} {M : Int × Int → Option Int} (h : SpotMap w b n M) (hn : n ≤ n') : SpotMap w b n' M := let ⟨D, h1, h2⟩ := h; ⟨D, h1.mono hn, h2⟩
theorem SpotMap.look_ok {w : World} {b n : Nat} {M : Int × Int → Option Int} (h : SpotMap w b n M) (p : Int × Int) (h1 : I64 p.1) (h2 : I64 p.2) :
    (Instr.lookup 176 (.map (some b)) (runVal p) true).run Try.prog w = .ok (.tuple #[.int .i64 ((M p).getD 0), .bool (M p).isSome]) w := by
  obtain ⟨D, hown, hM⟩ := h
  obtain ⟨v, ps, hrun, hv⟩ := hown.look_ok spotKeyed Try.underlying176 (z := .int .i64 0) (by kernel_rfl) (zd := .lit (.int .i64 0)) (zp := []) (plainElem_int Try.underlying3 (by decide)) (spotKey_of p h1 h2)
  obtain ⟨e1, e2⟩ := hM p h1 h2
  rw [e2] at hv
  obtain ⟨x, rfl, hx, _⟩ := plainElem_int_inv Try.underlying3 hv
  simp at hx
  rw [hrun, hx.1, e1]
theorem SpotMap.look {w : World} {b n : Nat} {M : Int × Int → Option Int} (h : SpotMap w b n M) (p : Int × Int) (h1 : I64 p.1) (h2 : I64 p.2) :
    (Instr.lookup 176 (.map (some b)) (runVal p) false).run Try.prog w = .ok (.int .i64 ((M p).getD 0)) w := by
  obtain ⟨D, hown, hM⟩ := h
  obtain ⟨v, ps, hrun, hv⟩ := hown.lookup spotKeyed Try.underlying176 (z := .int .i64 0) (by kernel_rfl) (zd := .lit (.int .i64 0)) (zp := []) (plainElem_int Try.underlying3 (by decide)) (spotKey_of p h1 h2)
  obtain ⟨e1, e2⟩ := hM p h1 h2
  rw [e2] at hv
  obtain ⟨x, rfl, hx, _⟩ := plainElem_int_inv Try.underlying3 hv
  simp at hx
  rw [hrun, hx.1]
def putM (M : Int × Int → Option Int) (p : Int × Int) (v : Int) : Int × Int → Option Int := fun q => if q = p then some v else M q
theorem SpotMap.put {w : World} {b n : Nat} {M : Int × Int → Option Int} (h : SpotMap w b n M) (hn : n < maxLen) (p : Int × Int) (v : Int) (h1 : I64 p.1) (h2 : I64 p.2) (hv : I64 v) :
    ∃ w', (Instr.mapUpdate 176 (.map (some b)) (runVal p) (.int .i64 v)).run Try.prog w = .ok () w' ∧ SpotMap w' b (n + 1) (putM M p v) ∧ w.grownBy w' (some b) := by
  obtain ⟨D, hown, hM⟩ := h
  obtain ⟨w', hrun, hown', hg⟩ := hown.update spotKeyed Try.underlying176 hn (spotKey_of p h1 h2) (plainElem_int Try.underlying3 (wfI hv))
  refine ⟨w', hrun, ⟨_, hown', fun q q1 q2 => ?_⟩, hg⟩
  unfold putM
  by_cases e : q = p
  · subst e
    rw [if_pos rfl, Maps.atKey_put_same hown.isMap (spotKeyed.key (spotKey_of q h1 h2)), Maps.has_put_same hown.isMap (spotKeyed.key (spotKey_of q h1 h2))]
    exact ⟨rfl, rfl⟩
  · have hne : spotKey q ≠ spotKey p := fun h => e (spotKey_inj q1 q2 h1 h2 h)
    rw [if_neg e, Maps.atKey_put_other hne, Maps.has_put_other hne]
    exact hM q q1 q2
theorem SpotMap.below {w w' : World} {b n B : Nat} {M : Int × Int → Option Int} (h : SpotMap w b n M) (hb : Below B w w') (hB : b < B) : SpotMap w' b n M := by
  obtain ⟨D, ⟨es, clock, hh, r⟩, hM⟩ := h
  exact ⟨D, ⟨es, clock, (hb.block b hB).trans hh, r⟩, hM⟩
end Go.Proofs.Ytnhifinfjfpoiaa

namespace Go.Proofs.Ytnhifinfjfpoiaa
open Go.RowKit
set_option linter.unusedVariables false

/-- g is where a rat was in night m that is in house h in the next one. -/
def Pred (c : Col) (f m h : Nat) (g : Int) : Prop := ∃ a : Nat, g = (a : Int) ∧ a < c.rooms.length ∧ comeB c f m a = true ∧ fullB c a m = true ∧ goesB c a h = true
/-- What the map says when k nights are done, and in night k of the houses that cur tells. -/
structure WayM (c : Col) (f k : Nat) (cur : Nat → Bool) (M : Int × Int → Option Int) : Prop where
  here : ∀ h m : Nat, h < c.rooms.length → m ≤ k → (M ((h : Int), (m : Int))).isSome = comeB c f m h
  back : ∀ (h m : Nat) (g : Int), h < c.rooms.length → m < k → M ((h : Int), (m : Int) + 1) = some g → Pred c f m h g
  next : ∀ h : Nat, h < c.rooms.length → (M ((h : Int), (k : Int) + 1)).isSome = cur h
  from_ : ∀ (h : Nat) (g : Int), h < c.rooms.length → M ((h : Int), (k : Int) + 1) = some g → Pred c f k h g
  high : ∀ h m : Nat, k + 1 < m → M ((h : Int), (m : Int)) = none
theorem WayM.start {c : Col} {f : Nat} {M : Int × Int → Option Int} (h0 : ∀ q, M q = if q = ((f : Int), (0 : Int)) then some (f : Int) else none) : WayM c f 0 (fun _ => false) M where
  here := fun h m _ hm => by
    obtain rfl : m = 0 := by omega
    rw [h0]
    show _ = (h == f)
    by_cases e : h = f
    · subst e; simp
    · rw [if_neg (by simp; omega)]; simp [e]
  back := fun h m g _ hm => by omega
  next := fun h _ => by rw [h0, if_neg (by simp)]; rfl
  from_ := fun h g _ hg => by rw [h0, if_neg (by simp)] at hg; cases hg
  high := fun h m hm => by rw [h0, if_neg (by simp; omega)]
theorem WayM.put {c : Col} {f k : Nat} {cur : Nat → Bool} {M : Int × Int → Option Int} (h : WayM c f k cur M) {j x : Nat} (hj : j < c.rooms.length) (h1 : comeB c f k j = true) (h2 : fullB c j k = true) (h3 : goesB c j x = true) :
    WayM c f k (fun y => y == x || cur y) (putM M ((x : Int), (k : Int) + 1) (j : Int)) where
  here := fun a m ha hm => by
    unfold putM
    rw [if_neg (by simp; omega)]
    exact h.here a m ha hm
  back := fun a m g ha hm hg => by
    unfold putM at hg
    rw [if_neg (by simp; omega)] at hg
    exact h.back a m g ha hm hg
  next := fun a ha => by
    unfold putM
    by_cases e : a = x
    · subst e; simp
    · rw [if_neg (by simp; omega), h.next a ha]
      have : (a == x) = false := by simpa using e
      rw [this]; rfl
  from_ := fun a g ha hg => by
    unfold putM at hg
    by_cases e : a = x
    · subst e
      rw [if_pos rfl] at hg
      cases hg
      exact ⟨j, rfl, hj, h1, h2, h3⟩
    · rw [if_neg (by simp; omega)] at hg
      exact h.from_ a g ha hg
  high := fun a m hm => by
    unfold putM
    rw [if_neg (by simp; omega)]
    exact h.high a m hm
theorem WayM.congr {c : Col} {f k : Nat} {cur cur' : Nat → Bool} {M : Int × Int → Option Int} (h : WayM c f k cur M) (e : ∀ x, x < c.rooms.length → cur x = cur' x) : WayM c f k cur' M :=
  ⟨h.here, h.back, fun a ha => (h.next a ha).trans (e a ha), h.from_, h.high⟩
theorem WayM.step {c : Col} {f k : Nat} {M : Int × Int → Option Int} (h : WayM c f k (comeB c f (k + 1)) M) : WayM c f (k + 1) (fun _ => false) M where
  here := fun a m ha hm => by
    by_cases e : m ≤ k
    · exact h.here a m ha e
    · obtain rfl : m = k + 1 := by omega
      exact h.next a ha
  back := fun a m g ha hm hg => by
    by_cases e : m < k
    · exact h.back a m g ha e hg
    · obtain rfl : m = k := by omega
      exact h.from_ a g ha hg
  next := fun a ha => by
    have := h.high a (k + 1 + 1) (by omega)
    rw [show (((k + 1 : Nat) : Int) + 1) = ((k + 1 + 1 : Nat) : Int) by omega, this]; rfl
  from_ := fun a g ha hg => by
    have := h.high a (k + 1 + 1) (by omega)
    rw [show (((k + 1 : Nat) : Int) + 1) = ((k + 1 + 1 : Nat) : Int) by omega, this] at hg; cases hg
  high := fun a m hm => h.high a m (by omega)
/-- The houses of night k + 1 to which one comes from the first j houses. -/
def curTo (c : Col) (f k j x : Nat) : Bool := anyB (fun g => comeB c f k g && fullB c g k && goesB c g x) j
def curIn (c : Col) (f k j : Nat) (pre : List Nat) (x : Nat) : Bool := curTo c f k j x || (comeB c f k j && fullB c j k && decide (x ∈ pre))
theorem curTo_all (c : Col) (f k x : Nat) : curTo c f k c.rooms.length x = comeB c f (k + 1) x := rfl
theorem curTo_succ (c : Col) (f k j x : Nat) : curTo c f k (j + 1) x = (curTo c f k j x || (comeB c f k j && fullB c j k && goesB c j x)) := anyB_succ _ _
theorem curIn_nil (c : Col) (f k j x : Nat) : curIn c f k j [] x = curTo c f k j x := by simp [curIn]
theorem curIn_all {c : Col} (ok : OkCol c) {f k j x : Nat} (hj : j < c.rooms.length) (hx : x < c.rooms.length) : curIn c f k j (members (nearC c j)) x = curTo c f k (j + 1) x := by
  have o2 := ok.houses.2
  unfold curIn
  rw [curTo_succ]
  congr 2
  rw [← nearC_bit hj (by omega), Bool.eq_iff_iff]
  simp only [decide_eq_true_eq]
  rw [mem_members]
  constructor
  · exact fun h => h.2
  · exact fun h => ⟨by omega, h⟩
theorem curIn_snoc {c : Col} {f k j : Nat} (h : comeB c f k j = true) (h2 : fullB c j k = true) (pre : List Nat) (y x : Nat) : (x == y || curIn c f k j pre x) = curIn c f k j (pre ++ [y]) x := by
  unfold curIn
  rw [h, h2, Bool.eq_iff_iff]
  simp
  constructor
  · rintro (h | h | h)
    · exact .inr (.inr h)
    · exact .inl h
    · exact .inr (.inl h)
  · rintro (h | h | h)
    · exact .inr (.inl h)
    · exact .inr (.inr h)
    · exact .inl h
theorem curIn_no {c : Col} {f k j : Nat} (h : (comeB c f k j && fullB c j k) = false) (pre pre' : List Nat) (x : Nat) : curIn c f k j pre x = curIn c f k j pre' x := by
  unfold curIn; rw [h]; simp

/-- A way that is laid from its end: so much of it as lies from index k on; x is the house that comes next. -/
structure WayL (c : Col) (f house night k : Nat) (x : Int) (L : List Int) : Prop where
  len : L.length = night + 1
  le : k ≤ night + 1
  inn : ∀ i, k ≤ i → i ≤ night → 0 ≤ nth L i ∧ nth L i ≤ (c.rooms.length : Int) - 1
  step : ∀ i, k ≤ i → i < night → fullB c (nth L i).toNat i = true ∧ goesB c (nth L i).toNat (nth L (i + 1)).toNat = true
  last : k ≤ night → nth L night = house
  first : k = 0 → nth L 0 = f
  cur : 0 < k → ∃ a : Nat, x = (a : Int) ∧ a < c.rooms.length ∧ comeB c f (k - 1) a = true ∧ (k = night + 1 → a = house) ∧ (k ≤ night → fullB c a (k - 1) = true ∧ goesB c a (nth L k).toNat = true)
theorem nth_set_same {L : List Int} {i : Nat} {x : Int} (h : i < L.length) : nth (L.set i x) i = x := by
  unfold nth; simp [h]
theorem nth_set_other {L : List Int} {i j : Nat} {x : Int} (h : i ≠ j) : nth (L.set i x) j = nth L j := by
  unfold nth; rw [List.getD_eq_getElem?_getD, List.getD_eq_getElem?_getD, List.getElem?_set_ne h]
theorem WayL.start {c : Col} {f house night : Nat} (hh : house < c.rooms.length) (hc : comeB c f night house = true) {L : List Int} (hL : L.length = night + 1) : WayL c f house night (night + 1) house L where
  len := hL
  le := Nat.le_refl _
  inn := fun i h1 h2 => by omega
  step := fun i h1 h2 => by omega
  last := fun h => by omega
  first := fun h => by omega
  cur := fun _ => ⟨house, rfl, hh, hc, fun _ => rfl, fun h => by omega⟩
theorem WayL.next {c : Col} {f house night k kk : Nat} {x : Int} {L : List Int} {M : Int × Int → Option Int} {cur : Nat → Bool} (h : WayL c f house night (k + 1) x L) (hM : WayM c f kk cur M) (hk : night ≤ kk) : WayL c f house night k ((M (x, (k : Int))).getD 0) (L.set k x) := by
  obtain ⟨a, rfl, ha, hcm, hlast, hmid⟩ := h.cur (by omega)
  have hle := h.le
  have hlen := h.len
  simp only [Nat.add_sub_cancel] at hcm hmid
  have hk1 : nth (L.set k (a : Int)) k = (a : Int) := nth_set_same (by omega)
  have hoth : ∀ i, k ≠ i → nth (L.set k (a : Int)) i = nth L i := fun i hi => nth_set_other hi
  refine ⟨by simp [hlen], by omega, ?_, ?_, ?_, ?_, ?_⟩
  · intro i h1 h2
    by_cases e : k = i
    · subst e; rw [hk1]; omega
    · rw [hoth i e]; exact h.inn i (by omega) h2
  · intro i h1 h2
    by_cases e : k = i
    · subst e
      rw [hk1, hoth (k + 1) (by omega), Int.toNat_natCast]
      exact hmid (by omega)
    · rw [hoth i e, hoth (i + 1) (by omega)]
      exact h.step i (by omega) h2
  · intro h1
    by_cases e : k = night
    · subst e; rw [hk1, hlast rfl]
    · rw [hoth night e]; exact h.last (by omega)
  · rintro rfl
    rw [hk1]
    have : (a == f) = true := hcm
    have : a = f := by simpa using this
    rw [this]
  · intro hk0
    obtain ⟨j, rfl⟩ : ∃ j, k = j + 1 := ⟨k - 1, by omega⟩
    have hs : (M ((a : Int), ((j + 1 : Nat) : Int))).isSome = true := by rw [hM.here a (j + 1) ha (by omega)]; exact hcm
    obtain ⟨g, hg⟩ := Option.isSome_iff_exists.1 hs
    rw [hg]
    have hg2 : M ((a : Int), (j : Int) + 1) = some g := hg
    obtain ⟨b, rfl, hb, hb1, hb2, hb3⟩ := hM.back a j g ha (by omega) hg2
    refine ⟨b, rfl, hb, by simpa using hb1, fun e => by omega, fun _ => ⟨by simpa using hb2, ?_⟩⟩
    rw [hk1, Int.toNat_natCast]; exact hb3
/-- A way that is laid whole is one. -/
structure WayOk (c : Col) (f house night : Nat) (L : List Int) : Prop where
  len : L.length = night + 1
  first : nth L 0 = f
  last : nth L night = house
  gone : goneErr c L = 0 ∧ goneB c L = true
theorem WayL.whole {c : Col} {f house night : Nat} {x : Int} {L : List Int} (hck : checkC c = 0) (h : WayL c f house night 0 x L) (hn : night < c.nights.length) : WayOk c f house night L := by
  have ok := okCol_of hck
  have o2 := ok.houses.2
  have hlen := h.len
  refine ⟨hlen, h.first rfl, h.last (by omega), ?_, ?_⟩
  · unfold goneErr
    have h1 : inB L.length 1 c.nights.length = true := by unfold inB; simp; omega
    have h2 : allHouse c L = true := by
      unfold allHouse; rw [allB_iff]
      intro i hi
      have := h.inn i (by omega) (by omega)
      unfold inB; simp; omega
    rw [if_pos hck, h1, h2]; rfl
  · refine goneB_yes fun i hi => ?_
    have h1 := h.step i (by omega) (by omega)
    have h2 := h.inn i (by omega) (by omega)
    have h3 := h.inn (i + 1) (by omega) (by omega)
    unfold stepB
    rw [h1.1, nearC_bit (by omega) (by omega), h1.2]; rfl
theorem asked_parts {c : Col} {H m : Nat} (hk : askedErr c (H : Int) (m : Int) = 0) : checkC c = 0 ∧ H < c.rooms.length ∧ m < c.nights.length := by
  unfold askedErr at hk
  by_cases q : checkC c = 0
  · rw [if_pos q] at hk
    cases q2 : inB (H : Int) 0 (c.rooms.length - 1) <;> cases q3 : inB (m : Int) 0 (c.nights.length - 1) <;> simp [q2, q3] at hk
    have h1 := inB_true q2
    have h2 := inB_true q3
    exact ⟨q, by omega, by omega⟩
  · rw [if_neg q] at hk; exact absurd hk q
/-- The error of Way. -/
def wayErr (c : Col) (from_ h m : Int) : Int := if askedErr c h m = 0 then (if inB from_ 0 (c.rooms.length - 1) = true then (if comeB c from_.toNat m.toNat h.toNat = true then 0 else 1) else 2) else askedErr c h m
end Go.Proofs.Ytnhifinfjfpoiaa

namespace Go.Proofs.Ytnhifinfjfpoiaa
open Go.RowKit
set_option linter.unusedVariables false
set_option linter.unusedSimpArgs false
attribute [local go_sem] Oper.semAt_some

theorem Kept.grown {b : Nat} {w w' : World} (hg : w.grownBy w' (some b)) : Kept b b b w w' :=
  ⟨hg.os, hg.tape, hg.output, hg.size, fun k hk h1 _ _ => hg.block k hk (by simp; omega)⟩
/-- Both kinds of marks are swept away: a list of one's own stays. -/
theorem i64_near {n : Nat} (h : n < 1000) : I64 (n : Int) := ⟨by omega, by omega⟩

theorem intsV_put (l : List Int) (k : Nat) (x : Int) : (intsV l).toArray.setIfInBounds k (.int .i64 x) = (intsV (l.set k x)).toArray := by
  simp [intsV]
theorem WayL.cur_in {c : Col} {f house night k : Nat} {x : Int} {L : List Int} (h : WayL c f house night (k + 1) x L) : 0 ≤ x ∧ x ≤ c.rooms.length := by
  obtain ⟨a, rfl, ha, _⟩ := h.cur (by omega)
  omega
theorem way_i64 {c : Col} {f house night : Nat} {L : List Int} (h : WayOk c f house night L) (o2 : c.rooms.length ≤ 6) : ∀ x ∈ L, I64 x := by
  intro x hx
  obtain ⟨i, hi, rfl⟩ := List.getElem_of_mem hx
  have := inB_true (allB_iff.1 (gone_in h.gone.1).2.2 i hi)
  rw [nth_eq hi] at this
  constructor <;> omega
theorem MarksLt.grownM {B n bm N : Nat} {ds : List Deferred} {W W' : World} {M : Int × Int → Option Int} (h : MarksLt B n ds W) (hs : SpotMap W bm N M) (hg : W.grownBy W' (some bm)) : MarksLt B n ds W' :=
  h.kept fun D _ hD => (hg.block D (Array.getElem?_eq_some_iff.1 hD).1 (fun e => by
    cases e
    obtain ⟨_, ⟨es, clock, hh, _⟩, _⟩ := hs
    rw [hh] at hD; cases hD)).trans hD
def WayO (c : Col) (f H m bd bm bb : Nat) (W1 : World) (a : Act) (wr : World) : Prop :=
  ∃ (k N : Nat) (M : Int × Int → Option Int) (us : Nat → Value) (ds : List Deferred), a = { tmps := List.toArray ((us 0) :: (us 1) :: (.int .i64 H) :: (.int .i64 m) :: (us 4) :: (us 5) :: (us 6) :: (us 7) :: (us 8) :: (us 9) :: (.pointer (some ⟨bd, 0, none⟩)) :: (us 11) :: (.pointer (some ⟨bb, 0, none⟩)) :: (us 13) :: (us 14) :: (us 15) :: (us 16) :: (us 17) :: (us 18) :: (us 19) :: (us 20) :: (us 21) :: (us 22) :: (us 23) :: (us 24) :: (us 25) :: (us 26) :: (us 27) :: (us 28) :: (us 29) :: (us 30) :: (us 31) :: (us 32) :: (us 33) :: (us 34) :: (us 35) :: (us 36) :: (us 37) :: (us 38) :: (us 39) :: (us 40) :: (us 41) :: (us 42) :: (.int .i64 m) :: (.int .i64 k) :: (us 45) :: (us 46) :: (us 47) :: (us 48) :: (us 49) :: (us 50) :: (us 51) :: (us 52) :: (us 53) :: (us 54) :: (us 55) :: (us 56) :: (us 57) :: (us 58) :: (us 59) :: (us 60) :: (us 61) :: (us 62) :: (us 63) :: (us 64) :: (us 65) :: (us 66) :: (us 67) :: (us 68) :: (us 69) :: (us 70) :: (us 71) :: (us 72) :: (us 73) :: (us 74) :: (us 75) :: (us 76) :: (us 77) :: (us 78) :: (us 79) :: (us 80) :: (us 81) :: (us 82) :: (us 83) :: (us 84) :: (us 85) :: (us 86) :: (us 87) :: (us 88) :: (us 89) :: (us 90) :: (us 91) :: (us 92) :: (us 93) :: (us 94) :: (us 95) :: (us 96) :: (us 97) :: (us 98) :: (us 99) :: (us 100) :: (us 101) :: (us 102) :: (us 103) :: (us 104) :: (us 105) :: (us 106) :: (us 107) :: (us 108) :: (us 109) :: (us 110) :: (us 111) :: (us 112) :: (us 113) :: (us 114) :: []), defers := ds } ∧ k ≤ m ∧ Kept bm bm bm W1 wr ∧ SpotMap wr bm N M ∧ N ≤ 1 + 36 * k ∧ WayM c f k (fun _ => false) M ∧ MarksLt W1.heap.size wr.heap.size ds wr
theorem WayO.mk {c : Col} {f H m bd bm bb k N : Nat} {W1 : World} {a : Act} {wr : World} {M : Int × Int → Option Int} {ds : List Deferred} (h : (fun us : Nat → Value => a = { tmps := List.toArray ((us 0) :: (us 1) :: (.int .i64 H) :: (.int .i64 m) :: (us 4) :: (us 5) :: (us 6) :: (us 7) :: (us 8) :: (us 9) :: (.pointer (some ⟨bd, 0, none⟩)) :: (us 11) :: (.pointer (some ⟨bb, 0, none⟩)) :: (us 13) :: (us 14) :: (us 15) :: (us 16) :: (us 17) :: (us 18) :: (us 19) :: (us 20) :: (us 21) :: (us 22) :: (us 23) :: (us 24) :: (us 25) :: (us 26) :: (us 27) :: (us 28) :: (us 29) :: (us 30) :: (us 31) :: (us 32) :: (us 33) :: (us 34) :: (us 35) :: (us 36) :: (us 37) :: (us 38) :: (us 39) :: (us 40) :: (us 41) :: (us 42) :: (.int .i64 m) :: (.int .i64 k) :: (us 45) :: (us 46) :: (us 47) :: (us 48) :: (us 49) :: (us 50) :: (us 51) :: (us 52) :: (us 53) :: (us 54) :: (us 55) :: (us 56) :: (us 57) :: (us 58) :: (us 59) :: (us 60) :: (us 61) :: (us 62) :: (us 63) :: (us 64) :: (us 65) :: (us 66) :: (us 67) :: (us 68) :: (us 69) :: (us 70) :: (us 71) :: (us 72) :: (us 73) :: (us 74) :: (us 75) :: (us 76) :: (us 77) :: (us 78) :: (us 79) :: (us 80) :: (us 81) :: (us 82) :: (us 83) :: (us 84) :: (us 85) :: (us 86) :: (us 87) :: (us 88) :: (us 89) :: (us 90) :: (us 91) :: (us 92) :: (us 93) :: (us 94) :: (us 95) :: (us 96) :: (us 97) :: (us 98) :: (us 99) :: (us 100) :: (us 101) :: (us 102) :: (us 103) :: (us 104) :: (us 105) :: (us 106) :: (us 107) :: (us 108) :: (us 109) :: (us 110) :: (us 111) :: (us 112) :: (us 113) :: (us 114) :: []), defers := ds }) (fun i => a.tmps.getD i undef)) (h1 : k ≤ m) (h2 : Kept bm bm bm W1 wr) (h3 : SpotMap wr bm N M) (h4 : N ≤ 1 + 36 * k) (h5 : WayM c f k (fun _ => false) M) (h6 : MarksLt W1.heap.size wr.heap.size ds wr) : WayO c f H m bd bm bb W1 a wr := ⟨k, N, M, fun i => a.tmps.getD i undef, ds, h, h1, h2, h3, h4, h5, h6⟩
def WayN (c : Col) (f H m bd bm bb k bn : Nat) (W1 W2 : World) (a : Act) (wr : World) : Prop :=
  ∃ (j N : Nat) (M : Int × Int → Option Int) (us : Nat → Value) (ds : List Deferred), a = { tmps := List.toArray ((us 0) :: (us 1) :: (.int .i64 H) :: (.int .i64 m) :: (us 4) :: (us 5) :: (us 6) :: (us 7) :: (us 8) :: (us 9) :: (.pointer (some ⟨bd, 0, none⟩)) :: (us 11) :: (.pointer (some ⟨bb, 0, none⟩)) :: (.pointer (some ⟨bn, 0, none⟩)) :: (us 14) :: (us 15) :: (us 16) :: (us 17) :: (us 18) :: (us 19) :: (us 20) :: (us 21) :: (us 22) :: (us 23) :: (us 24) :: (us 25) :: (us 26) :: (us 27) :: (us 28) :: (us 29) :: (us 30) :: (us 31) :: (us 32) :: (us 33) :: (us 34) :: (us 35) :: (us 36) :: (us 37) :: (us 38) :: (us 39) :: (us 40) :: (us 41) :: (us 42) :: (.int .i64 m) :: (.int .i64 k) :: (us 45) :: (us 46) :: (us 47) :: (us 48) :: (us 49) :: (us 50) :: (us 51) :: (.int .i64 c.rooms.length) :: (.int .i64 j) :: (us 54) :: (us 55) :: (us 56) :: (us 57) :: (us 58) :: (us 59) :: (us 60) :: (us 61) :: (us 62) :: (us 63) :: (us 64) :: (us 65) :: (us 66) :: (us 67) :: (us 68) :: (us 69) :: (us 70) :: (us 71) :: (us 72) :: (us 73) :: (us 74) :: (us 75) :: (us 76) :: (us 77) :: (us 78) :: (us 79) :: (us 80) :: (us 81) :: (us 82) :: (us 83) :: (us 84) :: (us 85) :: (us 86) :: (us 87) :: (us 88) :: (us 89) :: (us 90) :: (us 91) :: (us 92) :: (us 93) :: (us 94) :: (us 95) :: (us 96) :: (us 97) :: (us 98) :: (us 99) :: (us 100) :: (us 101) :: (us 102) :: (us 103) :: (us 104) :: (us 105) :: (us 106) :: (us 107) :: (us 108) :: (us 109) :: (us 110) :: (us 111) :: (us 112) :: (us 113) :: (us 114) :: []), defers := ds } ∧ j ≤ c.rooms.length ∧ Kept bm bm bm W2 wr ∧ SpotMap wr bm N M ∧ N ≤ 1 + 36 * k + 6 * j ∧ WayM c f k (curTo c f k j) M ∧ MarksLt W1.heap.size wr.heap.size ds wr
theorem WayN.mk {c : Col} {f H m bd bm bb k bn j N : Nat} {W1 W2 : World} {a : Act} {wr : World} {M : Int × Int → Option Int} {ds : List Deferred} (h : (fun us : Nat → Value => a = { tmps := List.toArray ((us 0) :: (us 1) :: (.int .i64 H) :: (.int .i64 m) :: (us 4) :: (us 5) :: (us 6) :: (us 7) :: (us 8) :: (us 9) :: (.pointer (some ⟨bd, 0, none⟩)) :: (us 11) :: (.pointer (some ⟨bb, 0, none⟩)) :: (.pointer (some ⟨bn, 0, none⟩)) :: (us 14) :: (us 15) :: (us 16) :: (us 17) :: (us 18) :: (us 19) :: (us 20) :: (us 21) :: (us 22) :: (us 23) :: (us 24) :: (us 25) :: (us 26) :: (us 27) :: (us 28) :: (us 29) :: (us 30) :: (us 31) :: (us 32) :: (us 33) :: (us 34) :: (us 35) :: (us 36) :: (us 37) :: (us 38) :: (us 39) :: (us 40) :: (us 41) :: (us 42) :: (.int .i64 m) :: (.int .i64 k) :: (us 45) :: (us 46) :: (us 47) :: (us 48) :: (us 49) :: (us 50) :: (us 51) :: (.int .i64 c.rooms.length) :: (.int .i64 j) :: (us 54) :: (us 55) :: (us 56) :: (us 57) :: (us 58) :: (us 59) :: (us 60) :: (us 61) :: (us 62) :: (us 63) :: (us 64) :: (us 65) :: (us 66) :: (us 67) :: (us 68) :: (us 69) :: (us 70) :: (us 71) :: (us 72) :: (us 73) :: (us 74) :: (us 75) :: (us 76) :: (us 77) :: (us 78) :: (us 79) :: (us 80) :: (us 81) :: (us 82) :: (us 83) :: (us 84) :: (us 85) :: (us 86) :: (us 87) :: (us 88) :: (us 89) :: (us 90) :: (us 91) :: (us 92) :: (us 93) :: (us 94) :: (us 95) :: (us 96) :: (us 97) :: (us 98) :: (us 99) :: (us 100) :: (us 101) :: (us 102) :: (us 103) :: (us 104) :: (us 105) :: (us 106) :: (us 107) :: (us 108) :: (us 109) :: (us 110) :: (us 111) :: (us 112) :: (us 113) :: (us 114) :: []), defers := ds }) (fun i => a.tmps.getD i undef)) (h1 : j ≤ c.rooms.length) (h2 : Kept bm bm bm W2 wr) (h3 : SpotMap wr bm N M) (h4 : N ≤ 1 + 36 * k + 6 * j) (h5 : WayM c f k (curTo c f k j) M) (h6 : MarksLt W1.heap.size wr.heap.size ds wr) : WayN c f H m bd bm bb k bn W1 W2 a wr := ⟨j, N, M, fun i => a.tmps.getD i undef, ds, h, h1, h2, h3, h4, h5, h6⟩

set_option maxRecDepth 100000 in
set_option maxHeartbeats 8000000 in
theorem Way_main (c : Col) (r t u n : Value) (f H m : Nat) (w : World) (hc : ColAt w w.heap.size r t u n c) (hk : askedErr c (H : Int) (m : Int) = 0) (hf : f < c.rooms.length) :
    Calls Try.prog 60 #[.agg #[r, t, u, n], .int .i64 f, .int .i64 H, .int .i64 m] w fun e w' => ∃ v L, e = .returned (.tuple #[v, .int .i64 (if comeB c f m H = true then 0 else 1)]) ∧ IsInts w' w'.heap.size v L ∧ (comeB c f m H = true → WayOk c f H m L) ∧ (comeB c f m H = false → L = []) ∧ Below w.heap.size w w' := by
  have hck : checkC c = 0 := (asked_parts hk).1
  have ok := okCol_of hck
  have o2 := ok.houses.2
  have o4 := ok.nights
  have hHm := (asked_parts hk).2
  have hBW : Below w.heap.size w (w.alloc (.cells #[r, t, u, n] 26)) := (Below.refl w.heap.size w).alloc (Nat.le_refl _) _
  have HCK := Lib.hid (asked_good c r t u n H m _ (hc.on hBW) hk)
  obtain ⟨hr, htr, hu, hn⟩ := hc
  obtain ⟨ar, cr, rfl, _⟩ := hr.open
  obtain ⟨at_, ct, rfl, _⟩ := htr.open
  obtain ⟨au, cu, rfl, _⟩ := hu.open
  obtain ⟨an, cn, rfl, _⟩ := hn.open
  have hin : inB (f : Int) 0 ((c.rooms.length : Int) - 1) = true := by unfold inB; simp; omega
  have HB := Lib.hid hBW; have HOK := Lib.hid ok; have HCC := Lib.hid hck
  clear hr htr hu hn hBW hk ok hck
  refine (callsIn_wide (n := 9)).1 ?_
  refine callsIn_of_wp_marks Try.func60 rfl trivial ?_ rfl
  simp only [Try.ntmps60, List.size_toArray, List.length_cons, List.length_nil, Nat.reduceAdd, Nat.reduceSub, Array.replicate_succ, Array.replicate_zero, List.push_toArray, List.append_toArray, List.nil_append, List.cons_append]
  have hput : ∀ (w1 : World) (p : Nat), ∃ wu, (Instr.mapUpdate 176 (.map (some (w1.heap.size + 1))) (.agg #[.int .i64 f, .int .i64 0]) (.int .i64 f)).run Try.prog ((w1.alloc (.cells #[.pointer (some ⟨p, 0, none⟩)] 118)).alloc (.map #[] 0)) = .ok () wu ∧ SpotMap wu (w1.heap.size + 1) 1 (putM (fun _ => none) ((f : Int), 0) f) ∧ ((w1.alloc (.cells #[.pointer (some ⟨p, 0, none⟩)] 118)).alloc (.map #[] 0)).grownBy wu (some (w1.heap.size + 1)) := fun w1 p => by
    have h := (SpotMap.made (w1.alloc (.cells #[.pointer (some ⟨p, 0, none⟩)] 118))).put (by decide) ((f : Int), 0) f (i64_near (by omega)) (i64_near (n := 0) (by omega)) (i64_near (by omega))
    rw [World.size_alloc] at h
    exact h
  have HPUT := Lib.hid hput
  clear hput
  have hmm := @run_makeMap Try.prog
  gi_wp2_with (first | (refine ⟨trivial, ?_⟩; gi_at_call 111; refine (callsIn_wide.2 (dhouse_any c p _ _ HDA.out)).mono ?_; rw [hin]; rintro e w' ⟨rfl, rfl⟩) | (refine ⟨trivial, ?_⟩; gi_at_call 89; refine (callsIn_wide.2 HCK.out).mono ?_; rintro e w1 ⟨p, rfl, hb1, hd⟩; have HDA := Lib.hid (hd.below (((Below.refl w1.heap.size w1)).alloc (Nat.le_refl _) (.cells #[.pointer (some ⟨p, 0, none⟩)] 118))); obtain ⟨wu, hrun, hsm, hgr⟩ := HPUT.out w1 p; have HD := Lib.hid (And.intro hb1 (And.intro hd (And.intro hsm hgr))); clear hb1 hd hsm hgr))
  obtain ⟨hb1, hd, hsm, hgr⟩ := HD.out
  have hsz : w1.heap.size + 2 ≤ wu.heap.size := by have := hgr.size; simpa using this
  have hbu : Below w1.heap.size w1 wu := below_grown (((Below.refl w1.heap.size w1).alloc (Nat.le_refl _) _).alloc (by simp) _) hgr (fun r hr => by cases hr; omega) (by simp; omega)
  have hb1u : Below w1.heap.size w1 (wu.alloc (.cells #[.map (some (w1.heap.size + 1))] 176)) := hbu.alloc (by omega) _
  have xbd : Boxed (wu.alloc (.cells #[.map (some (w1.heap.size + 1))] 176)) w1.heap.size 118 (.pointer (some ⟨p, 0, none⟩)) := Boxed.alloc ((hgr.block _ (by simp; omega) (by simp)).trans ((Boxed.new w1 118 (.pointer (some ⟨p, 0, none⟩))).alloc (.map #[] 0))) _
  have xbb : Boxed (wu.alloc (.cells #[.map (some (w1.heap.size + 1))] 176)) wu.heap.size 176 (.map (some (w1.heap.size + 1))) := Boxed.new wu _ _
  have xsm : SpotMap (wu.alloc (.cells #[.map (some (w1.heap.size + 1))] 176)) (w1.heap.size + 1) 1 (putM (fun _ => none) ((f : Int), 0) f) := hsm.below ((Below.refl wu.heap.size wu).alloc (Nat.le_refl _) _) (by omega)
  have hpl : p < w1.heap.size := hd.1
  have hw1 : w.heap.size ≤ w1.heap.size := by have := HB.out.size; have := hb1.size; omega
  have hsW : wu.heap.size + 1 ≤ (wu.alloc (.cells #[.map (some (w1.heap.size + 1))] 176)).heap.size := by simp
  have hww : Below w.heap.size w w1 := HB.out.trans (hb1.mono HB.out.size)
  obtain ⟨W1, hW1⟩ : ∃ W1, (wu.alloc (.cells #[.map (some (w1.heap.size + 1))] 176)) = W1 := ⟨_, rfl⟩
  rw [hW1] at hb1u xbd xbb xsm hsW ⊢
  obtain ⟨bb, hbb⟩ : ∃ bb, wu.heap.size = bb := ⟨_, rfl⟩
  obtain ⟨bd, hbd⟩ : ∃ bd, w1.heap.size = bd := ⟨_, rfl⟩
  rw [hbb] at xbb hsz hsW ⊢
  rw [hbd] at hsz hpl hw1 xbd xbb xsm hb1u ⊢
  have xd : ∀ W, Below bd W1 W → Desk W p c := fun W h => hd.below (by rw [hbd]; exact hb1u.trans h)
  have HX := Lib.hid (And.intro xbd (And.intro xbb (And.intro xd (And.intro hww (And.intro hb1u hbd)))))
  have HSM := Lib.hid xsm
  clear hW1 hbb hb1 hd hsm hgr hbu hb1u xbd xbb xd xsm hww hbd hrun HD HDA HPUT HCK hmm
  refine wpIn_loop (WayO c f H m bd (bd + 1) bb W1) (fun a _ => m - (intOf (a.tmps.getD 44 undef)).toNat) ?_ ?_
  · exact WayO.mk (k := 0) (N := 1) rfl (Nat.zero_le _) (Kept.refl _ _ _ _) HSM.out (by omega) (WayM.start (fun q => rfl)) (MarksLt.nil _ _ _)
  · clear HSM
    rintro a wo ⟨k, N0, M0, us, ds, rfl, hk, hko, hsm, hN0, hwm, hmk⟩
    have hk6 : (k : Int) < 6 := by omega
    have HO := Lib.hid (And.intro hko (And.intro hsm (And.intro hwm hmk)))
    have hszo := hko.size
    clear hko hsm hwm hmk
    by_cases hlt : k < m
    · have hki : (k : Int) < m := by omega
      have hb2 : Below wo.heap.size wo (wo.alloc (.cells #[.int .i64 k] 3)) := (Below.refl _ wo).alloc (Nat.le_refl _) _
      have hbo1 : Below bd W1 wo := HO.out.1.below (by omega) (by omega) (by omega) (by omega)
      have hdo : Desk (wo.alloc (.cells #[.int .i64 k] 3)) p c := HX.out.2.2.1 _ (hbo1.trans (hb2.mono (by omega)))
      obtain ⟨ar', cr', at', ct', au', cu', an', cn', ⟨c0, c1, c2, c3⟩, hnear, hcol⟩ := hdo.open
      have e10 : (wo.alloc (.cells #[.int .i64 k] 3)).cell? ⟨bd, 0, none⟩ = some (.pointer (some ⟨p, 0, none⟩)) := (hb2.cell (p := ⟨bd, 0, none⟩) (by simp; omega)).trans ((HO.out.1.boxed HX.out.1 (by omega) (by omega) (by omega)).cell)
      have HB2 := Lib.hid hb2; have HBO := Lib.hid hbo1
      clear hb2 hbo1 hdo hnear hcol
      gi_wp2_with fail
      clear c0 c1 c2 c3 e10
      obtain ⟨W2, hW2⟩ : ∃ W2, (wo.alloc (.cells #[.int .i64 k] 3)) = W2 := ⟨_, rfl⟩
      have hn2 : Boxed W2 wo.heap.size 3 (.int .i64 k) := by rw [← hW2]; exact Boxed.new wo _ _
      have hs2 : wo.heap.size + 1 ≤ W2.heap.size := by rw [← hW2]; simp
      rw [hW2] at HB2 ⊢
      have HX2 := Lib.hid hn2
      clear hW2 hn2
      refine wpIn_loop (WayN c f H m bd (bd + 1) bb k wo.heap.size W1 W2) (fun a _ => c.rooms.length - (intOf (a.tmps.getD 53 undef)).toNat) ?_ ?_
      · exact WayN.mk (j := 0) (N := N0) (M := M0) rfl (Nat.zero_le _) (Kept.refl _ _ _ _) (HO.out.2.1.below HB2.out (by have := HO.out.2.1.lt; omega)) (by omega) (HO.out.2.2.1.congr (fun x _ => rfl)) ((HO.out.2.2.2.below HB2.out (Nat.le_refl _)).mono (by omega))
      · rintro a wi ⟨j, N1, M1, us, ds, rfl, hj, hki2, hsm, hN1, hwm, hmk⟩
        have HI := Lib.hid (And.intro hki2 (And.intro hsm (And.intro hwm hmk)))
        have hszi := hki2.size
        clear hki2 hsm hwm hmk
        have hkW : Kept (bd + 1) (bd + 1) (bd + 1) W1 wi := (HO.out.1.trans (Kept.of HB2.out)).trans HI.out.1
        by_cases hlj : j < c.rooms.length
        · have hb3 : Below wi.heap.size wi (wi.alloc (.cells #[.int .i64 j] 3)) := (Below.refl _ wi).alloc (Nat.le_refl _) _
          have hdi : Desk (wi.alloc (.cells #[.int .i64 j] 3)) p c := HX.out.2.2.1 _ ((hkW.below (B := bd) (by omega) (by omega) (by omega) (by omega)).trans (hb3.mono (by omega)))
          obtain ⟨ar', cr', at', ct', au', cu', an', cn', ⟨c0, c1, c2, c3⟩, hnear, hcol⟩ := hdi.open
          have hj6 : j < 6 := by omega
          have hj6i : (j : Int) < 6 := by omega
          have hnr := hnear j hj6
          have e10 : (wi.alloc (.cells #[.int .i64 j] 3)).cell? ⟨bd, 0, none⟩ = some (.pointer (some ⟨p, 0, none⟩)) := (hb3.cell (p := ⟨bd, 0, none⟩) (by simp; omega)).trans ((hkW.boxed HX.out.1 (by omega) (by omega) (by omega)).cell)
          have hbh : (wi.alloc (.cells #[.int .i64 j] 3)).cell? ⟨wi.heap.size, 0, none⟩ = some (.int .i64 j) := (Boxed.new wi _ _).cell
          have HB3' := Lib.hid hb3; have HKW := Lib.hid hkW; have HDI := Lib.hid hdi
          clear hb3 hkW hdi hnear hcol
          gi_wp2_with fail
          refine wpIn_wide.2 ?_
          obtain ⟨W3, hW3⟩ : ∃ W3, wi.alloc (.cells #[.int .i64 j] 3) = W3 := ⟨_, rfl⟩
          have hbx3 := Boxed.new wi 3 (.int .i64 j)
          have hs3 : wi.heap.size + 1 ≤ W3.heap.size := by rw [← hW3]; simp
          rw [hW3] at c0 c1 c2 c3 hnr hbh e10 HB3' hbx3 HDI ⊢
          have HX3 := Lib.hid hbx3
          clear hW3 hbx3
          go_still_tail 6, (by kernel_rfl)
          change wpList _ _ _ _ _ W3.drew
          go_wp2_with (go_at_call 103; refine (houses_any _ _).mono ?_; rintro e w' ⟨rfl, rfl⟩)
          refine wpIn_block ?_
          obtain ⟨W4, hW4⟩ : ∃ W4, (W3.alloc (.cells #[.int .i64 (nearC c j)] 123)).drew = W4 := ⟨_, rfl⟩
          have hit4 : Boxed W4 W3.heap.size 123 (.int .i64 (nearC c j)) := by rw [← hW4]; exact Boxed.new W3 _ _
          have hb4 : Below W3.heap.size W3 W4 := by rw [← hW4]; exact ((Below.refl _ W3).alloc (Nat.le_refl _) _).drew
          have hs4 : W3.heap.size + 1 ≤ W4.heap.size := by rw [← hW4]; simp
          rw [hW4]
          clear hW4 c0 c1 c2 c3 hnr hbh e10
          have hwi4 : Below wi.heap.size wi W4 := HB3'.out.trans (hb4.mono (by omega))
          have hkW4 : Kept (bd + 1) (bd + 1) (bd + 1) W1 W4 := HKW.out.trans (Kept.of hwi4)
          have hnI := HI.out.1.boxed HX2.out (by omega) (by omega) (by omega)
          have hn4 : Boxed W4 wo.heap.size 3 (.int .i64 k) := (hwi4.block _ hnI.lt).trans hnI
          clear hnI
          have hh4 : Boxed W4 wi.heap.size 3 (.int .i64 j) := (hb4.block _ (by omega)).trans HX3.out
          have hsm4 : SpotMap W4 (bd + 1) N1 M1 := HI.out.2.1.below hwi4 HI.out.2.1.lt
          have hmk4 : MarksLt W1.heap.size W4.heap.size ds W4 := (HI.out.2.2.2.below hwi4 (Nat.le_refl _)).mono (by omega)
          have hbb4 : Boxed W4 bb 176 (.map (some (bd + 1))) := hkW4.boxed HX.out.2.1 (by omega) (by omega) (by omega)
          have hbd4 : Boxed W4 bd 118 (.pointer (some ⟨p, 0, none⟩)) := hkW4.boxed HX.out.1 (by omega) (by omega) (by omega)
          have hdk4 : Below bd W1 W4 := hkW4.below (B := bd) (by omega) (by omega) (by omega) (by omega)
          have HF := Lib.hid (And.intro hn4 (And.intro hh4 (And.intro hsm4 (And.intro hmk4 (And.intro hbb4 (And.intro hbd4 (And.intro hdk4 (And.intro hit4 hwi4))))))))
          have hnlt := nearC_lt c j
          have hbml := hsm4.lt
          clear hn4 hh4 hsm4 hmk4 hbb4 hbd4 hdk4 hit4 hwi4 hb4 hkW4
          refine wpIn_rangeFunc_ownG rfl (by decide) (gf := 141) (lb := #[.pointer (some ⟨W3.heap.size, 0, none⟩)]) rfl trivial Try.call141
            (houses_stops Fence.wide 8 (nearC c j) hnlt trivial trivial rfl (by decide) W3.heap.size (fun A B => B.cell? ⟨W3.heap.size, 0, none⟩ = A.cell? ⟨W3.heap.size, 0, none⟩) (fun A B h => h) W4 (by omega) HF.out.2.2.2.2.2.2.2.1.cell)
            (fun h k => k.trans h) (fun W l o o' hl ho hc _ => ?kb) (Below.refl _ _) (fun _ => rfl)
            (fun pre W => ∃ N M, SpotMap W (bd + 1) N M ∧ N ≤ 1 + 36 * k + 6 * j + pre.length ∧ WayM c f k (curIn c f k j (vals pre)) M ∧ Kept (bd + 1) (bd + 1) (bd + 1) W4 W ∧ MarksLt W1.heap.size W4.heap.size ds W)
            (fun _ _ _ => False) ?hI (fun _ _ _ _ _ hs _ _ => hs) ?h0
            (fun x => { tmps := List.toArray ((us 0) :: (us 1) :: (.int .i64 H) :: (.int .i64 m) :: (us 4) :: (us 5) :: (us 6) :: (us 7) :: (us 8) :: (us 9) :: (.pointer (some ⟨bd, 0, none⟩)) :: (us 11) :: (.pointer (some ⟨bb, 0, none⟩)) :: (.pointer (some ⟨wo.heap.size, 0, none⟩)) :: (.pointer (some ⟨wi.heap.size, 0, none⟩)) :: (.int .i64 x.1) :: (us 16) :: (us 17) :: (us 18) :: (us 19) :: (us 20) :: (us 21) :: (us 22) :: (us 23) :: (us 24) :: (us 25) :: (us 26) :: (us 27) :: (us 28) :: (us 29) :: (us 30) :: (us 31) :: (us 32) :: (us 33) :: (us 34) :: (us 35) :: (us 36) :: (us 37) :: (us 38) :: (us 39) :: (us 40) :: (us 41) :: (us 42) :: (.int .i64 m) :: (.int .i64 k) :: (us 45) :: (us 46) :: (us 47) :: (us 48) :: (us 49) :: (us 50) :: (us 51) :: (.int .i64 c.rooms.length) :: (.int .i64 j) :: (.bool true) :: (.int .i64 j) :: (.pointer (some ⟨p, 0, none⟩)) :: (.int .i64 j) :: (.pointer (some ⟨p, 0, none⟩)) :: (.pointer (some ⟨p, 4, none⟩)) :: (.pointer (some ⟨p, 4 + j, none⟩)) :: (.int .i64 (nearC c j)) :: (.func (.func 141) #[] #[.pointer (some ⟨W3.heap.size, 0, none⟩)]) :: (.int .i64 x.1) :: (us 64) :: (us 65) :: (us 66) :: (us 67) :: (us 68) :: (us 69) :: (us 70) :: (us 71) :: (us 72) :: (us 73) :: (us 74) :: (us 75) :: (us 76) :: (us 77) :: (us 78) :: (us 79) :: (us 80) :: (us 81) :: (us 82) :: (us 83) :: (us 84) :: (us 85) :: (us 86) :: (us 87) :: (us 88) :: (us 89) :: (us 90) :: (us 91) :: (us 92) :: (us 93) :: (us 94) :: (us 95) :: (us 96) :: (us 97) :: (us 98) :: (us 99) :: (us 100) :: (us 101) :: (us 102) :: (us 103) :: (us 104) :: (us 105) :: (us 106) :: (us 107) :: (us 108) :: (us 109) :: (us 110) :: (us 111) :: (us 112) :: (us 113) :: (us 114) :: []), defers := [] }) ?assign ?body ?done ?stop
          case kb =>
            show (W.putObj l o').cell? _ = _
            have hne : W3.heap.size ≠ l := by omega
            exact World.cell?_of_block (w := W) (World.putObj_heap_other hne)
          case hI =>
            refine ownFrom_of_below (fun s W h => by obtain ⟨_, _, _, _, _, h, _⟩ := h; exact h.size) ?_
            rintro s W W' hb ⟨N, M, g1, g2, g3, g4, g5⟩
            exact ⟨N, M, g1.below hb (by omega), g2, g3, g4.onto hb (Nat.le_refl _), g5.below hb (Nat.le_refl _)⟩
          case h0 => exact ⟨N1, M1, HF.out.2.2.1, by simp; omega, HI.out.2.2.1.congr (fun x _ => (curIn_nil c f k j x).symm), Kept.refl _ _ _ _, HF.out.2.2.2.1⟩
          case assign =>
            intro l x W K hK
            gi_wp2
            exact hK
          case body =>
            rintro l pre x W ⟨N, M, g1, g2, g3, g4, g5⟩ hlt
            have hx6 := x.2.1
            have hxn : x.1 < c.rooms.length := near_in HOK.out hlj x.2.1 x.2.2
            have hgo : goesB c j x.1 = true := by rw [← nearC_bit hlj hx6]; exact x.2.2
            have hsz4 := g4.size
            have cb : W.cell? ⟨bb, 0, none⟩ = some (.map (some (bd + 1))) := (g4.boxed HF.out.2.2.2.2.1 (by omega) (by omega) (by omega)).cell
            have cd : W.cell? ⟨bd, 0, none⟩ = some (.pointer (some ⟨p, 0, none⟩)) := (g4.boxed HF.out.2.2.2.2.2.1 (by omega) (by omega) (by omega)).cell
            have ch : W.cell? ⟨wi.heap.size, 0, none⟩ = some (.int .i64 j) := (g4.boxed HF.out.2.1 (by omega) (by omega) (by omega)).cell
            have cn' : W.cell? ⟨wo.heap.size, 0, none⟩ = some (.int .i64 k) := (g4.boxed HF.out.1 (by omega) (by omega) (by omega)).cell
            have hcI : W.cell? ⟨W3.heap.size, 0, none⟩ = W4.cell? ⟨W3.heap.size, 0, none⟩ := g4.cell (p := ⟨W3.heap.size, 0, none⟩) (by simp; omega) (by simp; omega) (by simp; omega) (by simp; omega)
            have hdW : Desk W p c := HX.out.2.2.1 _ (HF.out.2.2.2.2.2.2.1.trans (g4.below (B := bd) (by omega) (by omega) (by omega) (by omega)))
            have hlk : (Instr.lookup 176 (.map (some (bd + 1))) (.agg #[.int .i64 j, .int .i64 k]) true).run Try.prog W = .ok (.tuple #[.int .i64 ((M ((j : Int), (k : Int))).getD 0), .bool (M ((j : Int), (k : Int))).isSome]) W := g1.look_ok ((j : Int), (k : Int)) (i64_near (by omega)) (i64_near (by omega))
            rw [g3.here j k hlj (Nat.le_refl _)] at hlk
            obtain ⟨y, hy⟩ : ∃ y, (M ((j : Int), (k : Int))).getD 0 = y := ⟨_, rfl⟩
            rw [hy] at hlk
            have hkn : k < c.nights.length := by omega
            have hlen6 : pre.length ≤ 6 := by omega
            have HG := Lib.hid (And.intro g1 (And.intro g2 (And.intro g3 (And.intro g4 (And.intro g5 hcI)))))
            have HDW := Lib.hid hdW
            clear g1 g2 g3 g4 g5 hdW hy hcI
            cases hcm : comeB c f k j
            · rw [hcm] at hlk
              gi_wp2_with fail
              refine ⟨trivial, ?_⟩
              gi_wp2_with fail
              obtain ⟨g1, g2, g3, g4, g5, hcI⟩ := HG.out
              exact ⟨⟨Nat.le_refl _, fun k o _ hk _ => hk⟩, rfl, N, M, g1, by simp; omega, g3.congr (fun z _ => curIn_no (by rw [hcm]; rfl) _ _ z), g4, g5⟩
            · rw [hcm] at hlk
              cases hfull : fullB c j k
              · gi_wp2_with (refine ⟨trivial, ?_⟩; gi_at_call 90; refine (CallsIn.inRound l (callsIn_wide.2 (dfull_as hfull p W HDW.out hlj hkn))).mono ?_; rintro e w5 ⟨rfl, hb5⟩)
                obtain ⟨g1, g2, g3, g4, g5, hcI⟩ := HG.out
                refine ⟨⟨hb5.size, fun k o _ hk _ => (hb5.block k (Array.getElem?_eq_some_iff.1 hk).1).trans hk⟩, hb5.cell (p := ⟨W3.heap.size, 0, none⟩) (by simp; omega), N, M, g1.below hb5 g1.lt, by simp; omega, g3.congr (fun z _ => curIn_no (by rw [hcm, hfull]; rfl) _ _ z), g4.trans (Kept.of hb5), g5.below hb5 hsz4⟩
              · gi_wp2_with (refine ⟨trivial, ?_⟩; gi_at_call 90; refine (CallsIn.inRound l (callsIn_wide.2 (dfull_as hfull p W HDW.out hlj hkn))).mono ?_; rintro e w5 ⟨rfl, hb5⟩; obtain ⟨w6, hrun6, hsm6, hg6⟩ := (HG.out.1.below hb5 HG.out.1.lt).put (by have := HG.out.2.1; unfold maxLen; omega) ((x.1 : Int), (k : Int) + 1) (j : Int) (i64_near (by omega)) (by constructor <;> simp <;> omega) (i64_near (by omega)); replace hrun6 : (Instr.mapUpdate 176 (.map (some (bd + 1))) (.agg #[.int .i64 x.1, .int .i64 ((k : Int) + 1)]) (.int .i64 j)).run Try.prog w5 = .ok () w6 := hrun6; have cb5 := (hb5.cell (p := ⟨bb, 0, none⟩) (by simp; omega)).trans cb; have cn5 := (hb5.cell (p := ⟨wo.heap.size, 0, none⟩) (by simp; omega)).trans cn'; have ch5 := (hb5.cell (p := ⟨wi.heap.size, 0, none⟩) (by simp; omega)).trans ch; have H6 := Lib.hid (And.intro hb5 (And.intro hsm6 hg6)); clear hb5 hsm6 hg6)
                obtain ⟨g1, g2, g3, g4, g5, hcI⟩ := HG.out
                obtain ⟨hb5, hsm6, hg6⟩ := H6.out
                have hz5 := hb5.size
                have hz6 := hg6.size
                refine ⟨⟨by omega, fun k o hk hok _ => (hg6.block k (by have := (Array.getElem?_eq_some_iff.1 hok).1; omega) (by simp; omega)).trans ((hb5.block k (Array.getElem?_eq_some_iff.1 hok).1).trans hok)⟩, (World.cell?_of_block (hg6.block W3.heap.size (by omega) (by simp; omega))).trans (hb5.cell (p := ⟨W3.heap.size, 0, none⟩) (by simp; omega)), N + 1, _, hsm6, by simp; omega, ?_, (g4.trans (Kept.of hb5)).trans (Kept.grown hg6), (g5.below hb5 hsz4).grownM (g1.below hb5 g1.lt) hg6⟩
                rw [vals_snoc]
                exact (g3.put hlj hcm hfull hgo).congr (fun z _ => curIn_snoc hcm hfull _ _ z)
          case done =>
            rintro D ys W hD hys ⟨N, M, g1, g2, g3, g4, g5⟩ hK
            have hDlt := (Array.getElem?_eq_some_iff.1 hK).1
            have hl6 : ys.length ≤ 6 := by rw [← vals_len, hys]; exact members_len _
            have w2 : WayM c f k (curTo c f k (j + 1)) M := g3.congr (fun z hz => by rw [hys]; exact curIn_all HOK.out hlj hz)
            have k2 : Kept (bd + 1) (bd + 1) (bd + 1) W2 W := (HI.out.1.trans (Kept.of HF.out.2.2.2.2.2.2.2.2)).trans g4
            have m2 : MarksLt W1.heap.size W.heap.size ({ target := .collected D, args := #[] } :: ds) W := g5.cons hD (by have := g4.size; omega) hDlt hK
            have HS := Lib.hid (And.intro w2 (And.intro k2 (And.intro m2 g1)))
            clear g1 g3 g4 g5 hK w2 k2 m2 hys
            gi_wp2_with fail
            refine ⟨WayN.mk (j := j + 1) rfl (by omega) HS.out.2.1 HS.out.2.2.2 (by omega) HS.out.1 HS.out.2.2.1, ?_⟩
            simp [intOf]; omega
          case stop =>
            rintro D e pre W _ _ h _
            exact h.elim
        · obtain rfl : j = c.rooms.length := by omega
          have HKW := Lib.hid hkW
          clear hkW
          gi_wp2_with fail
          refine ⟨WayO.mk (k := k + 1) rfl (by omega) HKW.out HI.out.2.1 (by omega) (HI.out.2.2.1.congr (fun x _ => curTo_all c f k x)).step HI.out.2.2.2, ?_⟩
          simp [intOf]; omega
    · obtain rfl : k = m := by omega
      obtain ⟨hko, hsm, hwm, hmk⟩ := HO.out
      have cb : wo.cell? ⟨bb, 0, none⟩ = some (.map (some (bd + 1))) := (hko.boxed HX.out.2.1 (by omega) (by omega) (by omega)).cell
      have hlk : (Instr.lookup 176 (.map (some (bd + 1))) (.agg #[.int .i64 H, .int .i64 k]) true).run Try.prog wo = .ok (.tuple #[.int .i64 ((M0 ((H : Int), (k : Int))).getD 0), .bool (M0 ((H : Int), (k : Int))).isSome]) wo := hsm.look_ok ((H : Int), (k : Int)) (i64_near (by omega)) (i64_near (by omega))
      rw [hwm.here H k hHm.1 (Nat.le_refl _)] at hlk
      obtain ⟨y, hy⟩ : ∃ y, (M0 ((H : Int), (k : Int))).getD 0 = y := ⟨_, rfl⟩
      rw [hy] at hlk
      have hbo1 : Below bd W1 wo := hko.below (by omega) (by omega) (by omega) (by omega)
      have HFIN := Lib.hid (HX.out.2.2.2.1.trans ((HX.out.2.2.2.2.1.trans hbo1).mono hw1))
      have HBD := Lib.hid (HX.out.2.2.2.2.1.trans hbo1)
      clear hko hsm hwm hmk hy hbo1
      cases hcm : comeB c f k H
      · rw [hcm] at hlk
        gi_wp2_with fail
        all_goals
          refine ret_swept HO.out.2.2.2 (fun W' hW' => ?_)
          have hfin := HFIN.out.trans (hW'.below.mono (B' := w.heap.size) (by omega))
          refine ⟨.tuple #[.slice none 0 0, .int .i64 1], by simp [results, Try.results60, go_sem], ?_⟩
          exact ⟨.slice none 0 0, rfl, [], ints_nil _ _, rfl, hfin⟩
      · rw [hcm] at hlk
        have hmi : ((k : Int) + 1) = ((k + 1 : Nat) : Int) := by omega
        have hmk : (Instr.makeSlice 22 (.int .i64 ((k : Int) + 1)) (.int .i64 ((k : Int) + 1))).run Try.prog wo = .ok (.slice (some ⟨wo.heap.size, 0, none⟩) (k + 1) (k + 1)) (wo.alloc (.cells (intsV (List.replicate (k + 1) 0)).toArray 3)) := by rw [hmi]; exact make_intsN (k + 1) (by omega) wo
        have hcells : (wo.alloc (.cells (intsV (List.replicate (k + 1) 0)).toArray 3)).heap[wo.heap.size]? = some (.cells (intsV (List.replicate (k + 1) 0)).toArray 3 (0, 0)) := heap_alloc_new _ _
        have hbA : Below wo.heap.size wo (wo.alloc (.cells (intsV (List.replicate (k + 1) 0)).toArray 3)) := (Below.refl _ _).alloc (Nat.le_refl _) _
        have HA := Lib.hid (And.intro hcells hbA)
        have HCM := Lib.hid hcm
        clear hcells hbA hmi hcm
        gi_wp2_with fail
        clear cb hlk hmk
        gi_loopw [2, 21] (fun x i wr => ∃ (q : Nat) (xv yv : Int) (L : List Int), q ≤ k + 1 ∧ i = .int .i64 yv ∧ yv = (q : Int) - 1 ∧ x = .int .i64 xv ∧ Hid (WayL c f H k q xv L) ∧ Hid (wr.heap[wo.heap.size]? = some (.cells (intsV L).toArray 3 (0, 0)) ∧ Below wo.heap.size wo wr)) (fun _ i _ => (intOf i + 1).toNat)
        case atStart => exact ⟨k + 1, H, k, _, Nat.le_refl _, rfl, by omega, rfl, WayL.start hHm.1 HCM.out (by simp), HA.out⟩
        case round =>
          obtain ⟨q, xv, yv, L, hq, rfl, hyv, rfl, HL, HW⟩ := hrel
          rcases q with _ | j
          · have hy0 : ¬ (0 : Int) ≤ yv := by omega
            have hy1 : yv < 0 := by omega
            clear hyv
            gi_wp2_with fail
            refine ret_swept (HO.out.2.2.2.below HW.out.2 (Nat.le_refl _)) (fun W' hW' => ?_)
            have hok := HL.out.whole HCC.out hHm.2
            have hown : wr.ownsRow W1.heap.size 3 1 (.slice (some ⟨wo.heap.size, 0, none⟩) (k + 1) (k + 1)) L.length (intsV L) := ⟨by rw [intsV_len]; omega, .inr ⟨wo.heap.size, k + 1, _, by rw [hok.len], by omega, HW.out.1, by rw [hok.len]; exact Nat.le_refl _, by unfold maxLen; omega, by simp [intsV]; exact hok.len, by simp [intsV]; exact List.take_of_length_le (by simp)⟩⟩
            have hin := nums_of_owns (hW'.owns hown) (way_i64 hok o2) (by rw [hok.len]; omega)
            have hfin := (HFIN.out.trans (HW.out.2.mono (by have := HFIN.out.size; omega))).trans (hW'.below.mono (B' := w.heap.size) (by omega))
            refine ⟨.tuple #[.slice (some ⟨wo.heap.size, 0, none⟩) (k + 1) (k + 1), .int .i64 0], by simp [results, Try.results60, go_sem], ?_⟩
            exact ⟨_, rfl, L, hin, hok, hfin⟩
          · obtain rfl : yv = (j : Int) := by omega
            clear hyv
            have hjk : (j : Int) < (k : Int) + 1 := by omega
            have hlen := HL.out.len
            have cb : wr.cell? ⟨bb, 0, none⟩ = some (.map (some (bd + 1))) := (HW.out.2.cell (p := ⟨bb, 0, none⟩) (by simp; omega)).trans ((HO.out.1.boxed HX.out.2.1 (by omega) (by omega) (by omega)).cell)
            obtain ⟨hxr1, hxr2⟩ := HL.out.cur_in
            have hcj : wr.cell? ⟨wo.heap.size, j, none⟩ = some (.int .i64 (nth L j)) := (cell_of_row _ _ j _ _ _ HW.out.1).trans (by simp [intsV, nth, show j < L.length from by omega])
            have hfj := frozen_of_row wr wo.heap.size j _ _ HW.out.1
            have hsmr : SpotMap wr (bd + 1) N0 M0 := HO.out.2.1.below HW.out.2 HO.out.2.1.lt
            have hbX : Below wo.heap.size wr (wr.setCell ⟨wo.heap.size, j, none⟩ (.int .i64 xv)) := (Below.refl _ _).setCell (p := ⟨wo.heap.size, j, none⟩) (Nat.le_refl _) _
            have hlk : (Instr.lookup 176 (.map (some (bd + 1))) (.agg #[.int .i64 xv, .int .i64 j]) false).run Try.prog (wr.setCell ⟨wo.heap.size, j, none⟩ (.int .i64 xv)) = .ok (.int .i64 ((M0 (xv, (j : Int))).getD 0)) (wr.setCell ⟨wo.heap.size, j, none⟩ (.int .i64 xv)) := (hsmr.below hbX (by have := HO.out.2.1.lt; omega)).look (xv, (j : Int)) ⟨by omega, by omega⟩ (i64_near (by omega))
            have cb2 : (wr.setCell ⟨wo.heap.size, j, none⟩ (.int .i64 xv)).cell? ⟨bb, 0, none⟩ = some (.map (some (bd + 1))) := (hbX.cell (p := ⟨bb, 0, none⟩) (by simp; omega)).trans cb
            have HNX := Lib.hid (HL.out.next HO.out.2.2.1 (Nat.le_refl _))
            have hrow : (wr.setCell ⟨wo.heap.size, j, none⟩ (.int .i64 xv)).heap[wo.heap.size]? = some (.cells (intsV (L.set j xv)).toArray 3 (0, 0)) := by rw [heap_setCell_same _ _ _ _ _ _ HW.out.1, intsV_put]
            have HRW := Lib.hid (And.intro hrow (HW.out.2.trans hbX))
            obtain ⟨y2, hy2⟩ : ∃ y2, (M0 (xv, (j : Int))).getD 0 = y2 := ⟨_, rfl⟩
            rw [hy2] at hlk HNX
            clear hsmr hbX hrow hy2 cb
            gi_wp2_with fail
            go_roundw
            case rel => exact ⟨j, y2, (j : Int) - 1, _, by omega, by go_num, rfl, rfl, HNX.out, HRW.out⟩
            case measure => (simp [intOf] <;> omega)
end Go.Proofs.Ytnhifinfjfpoiaa

namespace Go.Proofs.Ytnhifinfjfpoiaa
open Go.RowKit
set_option linter.unusedVariables false

theorem contains_bit {s f : Nat} (hf : f < 6) : anyB (isAt (natsI (members s)) (f : Int)) (natsI (members s)).length = s.testBit f := by
  rw [Bool.eq_iff_iff, anyB_ex]
  constructor
  · rintro ⟨i, hi, h⟩
    have hi' : i < (members s).length := by rw [natsI_len] at hi; exact hi
    unfold isAt at h
    have e : nth (natsI (members s)) i = ((members s)[i] : Nat) := by
      rw [nth_eq hi]; simp [natsI]
    rw [e, beq_iff_eq] at h
    have e2 : (members s)[i] = f := by exact_mod_cast h
    have := List.getElem_mem hi'
    rw [e2] at this
    exact (mem_members.1 this).2
  · intro h
    obtain ⟨i, hi, e⟩ := List.getElem_of_mem (mem_members.2 ⟨hf, h⟩)
    refine ⟨i, by rw [natsI_len]; exact hi, ?_⟩
    unfold isAt
    have e' : nth (natsI (members s)) i = ((members s)[i] : Nat) := by
      rw [nth_eq (by rw [natsI_len]; exact hi)]; simp [natsI]
    rw [e', e]; simp
/-- Whoever can have gone a way has come from its first house. -/
theorem steps_come {c : Col} {l : List Int} (ok : OkCol c) (hl : ∀ i, i < l.length → 0 ≤ nth l i ∧ nth l i < c.rooms.length) (h0 : 0 < l.length) : ∀ k, k < l.length → allB (stepB c l) k = true → comeB c (nth l 0).toNat k (nth l k).toNat = true
  | 0, _, _ => by unfold comeB; simp
  | k + 1, hk, h => by
    rw [allB_iff] at h
    have h1 := steps_come ok hl h0 k (by omega) (by rw [allB_iff]; exact fun i hi => h i (by omega))
    have h2 := h k (by omega)
    unfold stepB at h2
    rw [Bool.and_eq_true] at h2
    have a := hl k (by omega)
    have b := hl (k + 1) hk
    have h6 := ok.houses.2
    rw [nearC_bit (by omega) (by omega)] at h2
    unfold comeB
    rw [anyB_ex]
    refine ⟨(nth l k).toNat, by omega, ?_⟩
    rw [h1, h2.1, h2.2]; rfl
theorem nth_snoc' {l : List Int} {x : Int} {i : Nat} (h : i < l.length) : nth (l ++ [x]) i = nth l i := by
  unfold nth; rw [List.getD_eq_getElem?_getD, List.getD_eq_getElem?_getD, List.getElem?_append_left h]
theorem nth_last' (l : List Int) (x : Int) : nth (l ++ [x]) l.length = x := by unfold nth; simp
theorem stepB_snoc {c : Col} {l : List Int} {x : Int} {i : Nat} (hi : i + 1 < l.length) : stepB c (l ++ [x]) i = stepB c l i := by
  unfold stepB
  rw [nth_snoc' (by omega), nth_snoc' hi]
theorem asked_ok {c : Col} (hk : checkC c = 0) {h m : Nat} (hh : h < c.rooms.length) (hm : m < c.nights.length) : askedErr c (h : Int) (m : Int) = 0 := by
  unfold askedErr
  rw [if_pos hk, inB_of ⟨by omega, by omega⟩, inB_of ⟨by omega, by omega⟩]
  rfl
theorem gone_ok {c : Col} (hk : checkC c = 0) {l : List Int} (h1 : 1 ≤ l.length ∧ l.length ≤ c.nights.length) (hl : ∀ i, i < l.length → 0 ≤ nth l i ∧ nth l i < c.rooms.length) : goneErr c l = 0 := by
  unfold goneErr
  have ha : allHouse c l = true := by
    unfold allHouse
    rw [allB_iff]
    intro i hi
    have := hl i hi
    exact inB_of ⟨by omega, by omega⟩
  rw [if_pos hk, inB_of ⟨by omega, by omega⟩, ha]
  rfl
end Go.Proofs.Ytnhifinfjfpoiaa
