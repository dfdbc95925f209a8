/- The readings of memory on which all contracts rest: a slice of integers, of pairs, of rows, a colony; each stays read where nothing below its bound has turned. Contracts of the small functions: bounds, bits, runs. Contracts of the library's IndexFunc, ContainsFunc and of the generic 'every', at the kinds of element that occur, for whatever function is asked. Maps that a call makes, keyed by pairs of integers: a set of pairs (map[rat.Run]bool). What Check answers, as plain functions of a colony. Contracts of the comparisons of lists: numbers, spans, runs, rows. Contract of rat.Check: for every colony it answers what checkC says. What a box of four values holds, and what quiet calls leave. Sets of houses as masks: six bits. The errors of what is asked of a house and a night. Contract of rat.opened: a colony at work, or its error. Contracts of rat's small functions over a colony at work: house, night, full, asked, Full. -/
import Derived.Test.YtnhifinfjfpoiaaGreatProg
import Derived.WalkKit
import Derived.WalkSpells
import Derived.WalkLawsBesides
import Derived.Lib.Hide
import Derived.Deep.QuietTactic
import Derived.BigQuiet
import Derived.Maps.Own
import Derived.Maps.OwnOps
import Derived.Maps.OwnSet
import Derived.DeepKeys5
import Derived.Laws.StructEq
import Derived.StillTailTactics
namespace Go.Proofs.YtnhifinfjfpoiaaGreat
open Go.RowKit

def I64 (n : Int) : Prop := -9223372036854775808 ≤ n ∧ n ≤ 9223372036854775807
def nth (xs : List Int) (i : Nat) : Int := xs.getD i 0
def nthP (xs : List (Int × Int)) (i : Nat) : Int × Int := xs.getD i (0, 0)
def nthR (xs : List (List Int)) (i : Nat) : List Int := xs.getD i []
def nthB (xs : List Bool) (i : Nat) : Bool := xs.getD i false
theorem nth_eq {xs : List Int} {i : Nat} (h : i < xs.length) : nth xs i = xs[i] := by simp [nth, h]
theorem nthP_eq {xs : List (Int × Int)} {i : Nat} (h : i < xs.length) : nthP xs i = xs[i] := by simp [nthP, h]
theorem nthR_eq {xs : List (List Int)} {i : Nat} (h : i < xs.length) : nthR xs i = xs[i] := by simp [nthR, h]
theorem nthB_eq {xs : List Bool} {i : Nat} (h : i < xs.length) : nthB xs i = xs[i] := by simp [nthB, h]
theorem nth_mem {xs : List Int} {i : Nat} (h : i < xs.length) : nth xs i ∈ xs := by rw [nth_eq h]; exact List.getElem_mem h
theorem nthP_mem {xs : List (Int × Int)} {i : Nat} (h : i < xs.length) : nthP xs i ∈ xs := by rw [nthP_eq h]; exact List.getElem_mem h
theorem nthR_mem {xs : List (List Int)} {i : Nat} (h : i < xs.length) : nthR xs i ∈ xs := by rw [nthR_eq h]; exact List.getElem_mem h

/-- A slice of n elements of sz cells each, in blocks below B; cell j holds f j. -/
def SlAt (w : World) (B : Nat) (v : Value) (n sz : Nat) (f : Nat → Value) : Prop :=
  ∃ (a : Option Addr) (cap : Nat), v = .slice a n cap ∧ n ≤ cap ∧ n ≤ 140737488355328 ∧
    (n = 0 ∨ ∃ b off, a = some ⟨b, off, none⟩ ∧ b < B ∧ ∀ j, j < n * sz → w.cell? ⟨b, off + j, none⟩ = some (f j))

theorem SlAt.below {w w' : World} {B B' : Nat} {v : Value} {n sz : Nat} {f : Nat → Value} (h : SlAt w B v n sz f) (hb : Below B' w w') (hB : B ≤ B') : SlAt w' B v n sz f := by
  obtain ⟨a, cap, hv, h1, h2, h3⟩ := h
  refine ⟨a, cap, hv, h1, h2, ?_⟩
  rcases h3 with h3 | ⟨b, off, ha, hlt, hc⟩
  · exact .inl h3
  · exact .inr ⟨b, off, ha, hlt, fun j hj => (hb.cell (p := ⟨b, off + j, none⟩) (Nat.lt_of_lt_of_le hlt hB)).trans (hc j hj)⟩
theorem SlAt.mono {w : World} {B B' : Nat} {v : Value} {n sz : Nat} {f : Nat → Value} (h : SlAt w B v n sz f) (hB : B ≤ B') : SlAt w B' v n sz f := by
  obtain ⟨a, cap, hv, h1, h2, h3⟩ := h
  refine ⟨a, cap, hv, h1, h2, ?_⟩
  rcases h3 with h3 | ⟨b, off, ha, hlt, hc⟩
  · exact .inl h3
  · exact .inr ⟨b, off, ha, Nat.lt_of_lt_of_le hlt hB, hc⟩

def IsInts (w : World) (B : Nat) (v : Value) (xs : List Int) : Prop :=
  SlAt w B v xs.length 1 (fun j => .int .i64 (nth xs j)) ∧ ∀ x ∈ xs, I64 x
def IsBools (w : World) (B : Nat) (v : Value) (xs : List Bool) : Prop :=
  SlAt w B v xs.length 1 (fun j => .bool (nthB xs j))
def pcell (ps : List (Int × Int)) (j : Nat) : Value := .int .i64 (if j % 2 = 0 then (nthP ps (j / 2)).1 else (nthP ps (j / 2)).2)
def IsPairs (w : World) (B : Nat) (v : Value) (ps : List (Int × Int)) : Prop :=
  SlAt w B v ps.length 2 (pcell ps) ∧ ∀ p ∈ ps, I64 p.1 ∧ I64 p.2
def IsRows (w : World) (B : Nat) (v : Value) (rows : List (List Int)) : Prop :=
  ∃ f : Nat → Value, SlAt w B v rows.length 1 f ∧ ∀ j, j < rows.length → IsInts w B (f j) (nthR rows j)

structure Col where
  rooms : List Int
  traps : List Int
  runs : List (Int × Int)
  nights : List (List Int)

def ColAt (w : World) (B : Nat) (r t u n : Value) (c : Col) : Prop :=
  IsInts w B r c.rooms ∧ IsInts w B t c.traps ∧ IsPairs w B u c.runs ∧ IsRows w B n c.nights

theorem IsInts.below {w w' : World} {B B' : Nat} {v : Value} {xs : List Int} (h : IsInts w B v xs) (hb : Below B' w w') (hB : B ≤ B') : IsInts w' B v xs := ⟨h.1.below hb hB, h.2⟩
theorem IsInts.mono {w : World} {B B' : Nat} {v : Value} {xs : List Int} (h : IsInts w B v xs) (hB : B ≤ B') : IsInts w B' v xs := ⟨h.1.mono hB, h.2⟩
theorem IsBools.below {w w' : World} {B B' : Nat} {v : Value} {xs : List Bool} (h : IsBools w B v xs) (hb : Below B' w w') (hB : B ≤ B') : IsBools w' B v xs := SlAt.below h hb hB
theorem IsBools.mono {w : World} {B B' : Nat} {v : Value} {xs : List Bool} (h : IsBools w B v xs) (hB : B ≤ B') : IsBools w B' v xs := SlAt.mono h hB
theorem IsPairs.below {w w' : World} {B B' : Nat} {v : Value} {xs : List (Int × Int)} (h : IsPairs w B v xs) (hb : Below B' w w') (hB : B ≤ B') : IsPairs w' B v xs := ⟨h.1.below hb hB, h.2⟩
theorem IsPairs.mono {w : World} {B B' : Nat} {v : Value} {xs : List (Int × Int)} (h : IsPairs w B v xs) (hB : B ≤ B') : IsPairs w B' v xs := ⟨h.1.mono hB, h.2⟩
theorem IsRows.below {w w' : World} {B B' : Nat} {v : Value} {xs : List (List Int)} (h : IsRows w B v xs) (hb : Below B' w w') (hB : B ≤ B') : IsRows w' B v xs :=
  let ⟨f, h1, h2⟩ := h; ⟨f, h1.below hb hB, fun j hj => (h2 j hj).below hb hB⟩
theorem IsRows.mono {w : World} {B B' : Nat} {v : Value} {xs : List (List Int)} (h : IsRows w B v xs) (hB : B ≤ B') : IsRows w B' v xs :=
  let ⟨f, h1, h2⟩ := h; ⟨f, h1.mono hB, fun j hj => (h2 j hj).mono hB⟩
theorem ColAt.below {w w' : World} {B B' : Nat} {r t u n : Value} {c : Col} (h : ColAt w B r t u n c) (hb : Below B' w w') (hB : B ≤ B') : ColAt w' B r t u n c :=
  ⟨h.1.below hb hB, h.2.1.below hb hB, h.2.2.1.below hb hB, h.2.2.2.below hb hB⟩
theorem ColAt.mono {w : World} {B B' : Nat} {r t u n : Value} {c : Col} (h : ColAt w B r t u n c) (hB : B ≤ B') : ColAt w B' r t u n c :=
  ⟨h.1.mono hB, h.2.1.mono hB, h.2.2.1.mono hB, h.2.2.2.mono hB⟩

/-- The slice's value, and its cells where there is an element. -/
theorem IsInts.open {w : World} {B : Nat} {v : Value} {xs : List Int} (h : IsInts w B v xs) :
    ∃ (a : Option Addr) (cap : Nat), v = .slice a xs.length cap ∧ xs.length ≤ cap ∧ xs.length ≤ 140737488355328 ∧ (∀ i, i < xs.length → ∃ b off, a = some ⟨b, off, none⟩ ∧ b < B ∧ w.cell? ⟨b, off + i, none⟩ = some (.int .i64 (nth xs i))) := by
  obtain ⟨⟨a, cap, hv, h1, h2, h3⟩, _⟩ := h
  refine ⟨a, cap, hv, h1, h2, fun i hi => ?_⟩
  rcases h3 with h3 | ⟨b, off, ha, hlt, hc⟩
  · omega
  · exact ⟨b, off, ha, hlt, hc i (by omega)⟩
theorem IsBools.open {w : World} {B : Nat} {v : Value} {xs : List Bool} (h : IsBools w B v xs) :
    ∃ (a : Option Addr) (cap : Nat), v = .slice a xs.length cap ∧ xs.length ≤ cap ∧ xs.length ≤ 140737488355328 ∧ (∀ i, i < xs.length → ∃ b off, a = some ⟨b, off, none⟩ ∧ b < B ∧ w.cell? ⟨b, off + i, none⟩ = some (.bool (nthB xs i))) := by
  obtain ⟨a, cap, hv, h1, h2, h3⟩ := h
  refine ⟨a, cap, hv, h1, h2, fun i hi => ?_⟩
  rcases h3 with h3 | ⟨b, off, ha, hlt, hc⟩
  · omega
  · exact ⟨b, off, ha, hlt, hc i (by omega)⟩
theorem IsPairs.open {w : World} {B : Nat} {v : Value} {xs : List (Int × Int)} (h : IsPairs w B v xs) :
    ∃ (a : Option Addr) (cap : Nat), v = .slice a xs.length cap ∧ xs.length ≤ cap ∧ xs.length ≤ 140737488355328 ∧ (∀ i, i < xs.length → ∃ b off, a = some ⟨b, off, none⟩ ∧ b < B ∧ w.cell? ⟨b, off + i * 2, none⟩ = some (.int .i64 (nthP xs i).1) ∧ w.cell? ⟨b, off + i * 2 + 1, none⟩ = some (.int .i64 (nthP xs i).2)) := by
  obtain ⟨⟨a, cap, hv, h1, h2, h3⟩, _⟩ := h
  refine ⟨a, cap, hv, h1, h2, fun i hi => ?_⟩
  rcases h3 with h3 | ⟨b, off, ha, hlt, hc⟩
  · omega
  · refine ⟨b, off, ha, hlt, ?_, ?_⟩
    · rw [hc (i * 2) (by omega)]; simp [pcell]
    · rw [Nat.add_assoc, hc (i * 2 + 1) (by omega)]
      have e1 : (i * 2 + 1) % 2 = 1 := by omega
      have e2 : (i * 2 + 1) / 2 = i := by omega
      simp [pcell, e1, e2]
theorem IsRows.open {w : World} {B : Nat} {v : Value} {xs : List (List Int)} (h : IsRows w B v xs) :
    ∃ (a : Option Addr) (cap : Nat), v = .slice a xs.length cap ∧ xs.length ≤ cap ∧ xs.length ≤ 140737488355328 ∧ (∀ i, i < xs.length → ∃ b off u, a = some ⟨b, off, none⟩ ∧ b < B ∧ w.cell? ⟨b, off + i, none⟩ = some u ∧ IsInts w B u (nthR xs i)) := by
  obtain ⟨f, ⟨a, cap, hv, h1, h2, h3⟩, hr⟩ := h
  refine ⟨a, cap, hv, h1, h2, fun i hi => ?_⟩
  rcases h3 with h3 | ⟨b, off, ha, hlt, hc⟩
  · omega
  · exact ⟨b, off, f i, ha, hlt, hc i (by omega), hr i hi⟩

theorem bcell {B : Nat} {W w1 : World} (hb : Below B W w1) : (∀ b o, b < B → w1.cell? ⟨b, o, none⟩ = W.cell? ⟨b, o, none⟩) ∧ (∀ b o, b < B → w1.frozen? ⟨b, o, none⟩ = W.frozen? ⟨b, o, none⟩) :=
  ⟨fun b o h => hb.cell (p := ⟨b, o, none⟩) h, fun b o h => hb.frozen (p := ⟨b, o, none⟩) h⟩
theorem Below.drewN {B : Nat} {a w : World} (h : Below B a w) : ∀ n, Below B a (w.drewN n) := fun n => by
  refine h.trans ?_
  exact ⟨rfl, rfl, rfl, Nat.le_refl _, fun _ _ => rfl⟩
theorem ret_int {k : IntKind} {a b : Int} (h : a = b) : Ending.returned (.int k a) = .returned (.int k b) := by rw [h]
theorem ret_bool {a b : Bool} (h : a = b) : Ending.returned (.bool a) = .returned (.bool b) := by rw [h]
end Go.Proofs.YtnhifinfjfpoiaaGreat

namespace Go.Proofs.YtnhifinfjfpoiaaGreat
open Go.RowKit
set_option linter.unusedVariables false

def inB (n lo hi : Int) : Bool := decide (lo ≤ n ∧ n ≤ hi)
theorem inB_true {n lo hi : Int} (h : inB n lo hi = true) : lo ≤ n ∧ n ≤ hi := by simpa [inB] using h
theorem inB_false {n lo hi : Int} (h : inB n lo hi = false) : ¬ (lo ≤ n ∧ n ≤ hi) := by
  intro h'; simp [inB, h'.1, h'.2] at h
theorem inB_of {n lo hi : Int} (h : lo ≤ n ∧ n ≤ hi) : inB n lo hi = true := by simpa [inB] using h
theorem inB_not {n lo hi : Int} (h : ¬ (lo ≤ n ∧ n ≤ hi)) : inB n lo hi = false := by
  unfold inB; exact decide_eq_false h

theorem in_any (n lo hi : Int) (w : World) : Calls Tryz.prog 42 #[.int .i64 n, .int .i64 lo, .int .i64 hi] w fun e w' => e = .returned (.bool (inB n lo hi)) ∧ w = w' := by
  by_cases h : lo ≤ n <;> by_cases h2 : n ≤ hi
  all_goals
    go_enter Tryz.func42, Tryz.ntmps42
    go_wp2
    go_ret
    exact ⟨ret_bool (by first | exact (inB_of (by omega)).symm | exact (inB_not (by omega)).symm), rfl⟩

theorem off_any (n lo hi : Int) (w : World) : Calls Tryz.prog 46 #[.int .i64 n, .int .i64 lo, .int .i64 hi] w fun e w' => e = .returned (.bool (!inB n lo hi)) ∧ w = w' := by
  by_cases h : lo ≤ n <;> by_cases h2 : n ≤ hi
  all_goals
    go_enter Tryz.func46, Tryz.ntmps46
    go_wp2
    go_ret
    exact ⟨ret_bool (by first | (rw [inB_of ⟨h, h2⟩]; simp; omega) | (rw [inB_not (by omega)]; simp; done) | (rw [inB_not (by omega)]; simp; omega)), rfl⟩

theorem bit_of : ∀ m : Fin 64, ∀ h : Fin 6, (bits BinOp.and IntKind.i64 ((m.val : Int) / 2 ^ h.val) 1 == 1) = m.val.testBit h.val := by decide +kernel

theorem has_any (m h : Nat) (w : World) (hm : m < 64) (hh : h < 6) : Calls Tryz.prog 96 #[.int .i64 m, .int .i64 h] w fun e w' => e = .returned (.bool (m.testBit h)) ∧ w = w' := by
  have hb := Lib.hid (bit_of ⟨m, hm⟩ ⟨h, hh⟩)
  go_enter Tryz.func96, Tryz.ntmps96
  go_wp2
  go_ret
  exact ⟨ret_bool hb.out, rfl⟩

def joinsB (p : Int × Int) (a b : Int) : Bool := (p.1 == a && p.2 == b) || (p.1 == b && p.2 == a)
theorem joins_any (p : Int × Int) (a b : Int) (w : World) : Calls Tryz.prog 104 #[.agg #[.int .i64 p.1, .int .i64 p.2], .int .i64 a, .int .i64 b] w fun e w' => e = .returned (.bool (joinsB p a b)) ∧ Below w.heap.size w w' := by
  obtain ⟨x, y⟩ := p
  have hB : Below w.heap.size w (w.alloc (.cells #[.int .i64 x, .int .i64 y] 75)) := (Below.refl _ _).alloc (Nat.le_refl _) _
  cases h1 : (x == a) <;> cases h2 : (y == b) <;> cases h3 : (x == b) <;> cases h4 : (y == a)
  all_goals
    go_enter Tryz.func104, Tryz.ntmps104
    go_wp2
    go_ret
    exact ⟨ret_bool (by simp [joinsB, h1, h2, h3, h4]), hB⟩

theorem pair_any (x y : Int) (w : World) : Calls Tryz.prog 86 #[.agg #[.int .i64 x, .int .i64 y]] w fun e w' => e = .returned (.agg #[.int .i64 (min x y), .int .i64 (max x y)]) ∧ Below w.heap.size w w' := by
  rcases Int.lt_trichotomy x y with h | h | h
  · have e1 : min x y = x := by omega
    have e2 : max x y = y := by omega
    rw [e1, e2]; clear e1 e2
    go_enter Tryz.func86, Tryz.ntmps86
    go_wp2
    all_goals exact bodyPost_ret (v := .agg #[.int .i64 x, .int .i64 y]) (by simp [results, Tryz.results86, go_sem]) rfl ⟨rfl, ((Below.refl _ _).alloc (Nat.le_refl _) _).alloc (by simp) _⟩
  · subst h
    have e1 : min x x = x := by omega
    have e2 : max x x = x := by omega
    rw [e1, e2]; clear e1 e2
    go_enter Tryz.func86, Tryz.ntmps86
    go_wp2
    all_goals exact bodyPost_ret (v := .agg #[.int .i64 x, .int .i64 x]) (by simp [results, Tryz.results86, go_sem]) rfl ⟨rfl, ((Below.refl _ _).alloc (Nat.le_refl _) _).alloc (by simp) _⟩
  · have e1 : min x y = y := by omega
    have e2 : max x y = x := by omega
    rw [e1, e2]; clear e1 e2
    go_enter Tryz.func86, Tryz.ntmps86
    go_wp2
    all_goals exact bodyPost_ret (v := .agg #[.int .i64 y, .int .i64 x]) (by simp [results, Tryz.results86, go_sem]) rfl ⟨rfl, ((Below.refl _ _).alloc (Nat.le_refl _) _).alloc (by simp) _⟩

theorem house_any (h : Int) (p : Addr) (a : Option Addr) (n cap : Nat) (w : World) (hc : w.cell? p = some (.slice a n cap)) (hn : n ≤ 140737488355328) : Calls Tryz.prog 41 #[.pointer (some p), .int .i64 h] w fun e w' => e = .returned (.bool (inB h 0 (n - 1))) ∧ w = w' := by
  go_enter Tryz.func41, Tryz.ntmps41
  go_wp2_with (go_at_call 42; refine (in_any _ _ _ _).mono ?_; rintro e w' ⟨rfl, rfl⟩)
  go_ret
  exact ⟨rfl, rfl⟩

/-- A row of a night, and a number of it. -/
theorem fullD_any (h n : Nat) (b : Nat) (at_ an : Option Addr) (lt ct ln cn : Nat) (bt ot bn on br or_ lr cr : Nat) (x y : Int) (w : World)
    (ht : w.cell? ⟨b, 1, none⟩ = some (.slice (some ⟨bt, ot, none⟩) lt ct)) (hn : w.cell? ⟨b, 3, none⟩ = some (.slice (some ⟨bn, on, none⟩) ln cn))
    (hr : w.cell? ⟨bn, on + n, none⟩ = some (.slice (some ⟨br, or_, none⟩) lr cr)) (hx : w.cell? ⟨br, or_ + h, none⟩ = some (.int .i64 x)) (hy : w.cell? ⟨bt, ot + h, none⟩ = some (.int .i64 y))
    (h1 : n < ln) (h2 : h < lr) (h3 : h < lt) (b1 : ln ≤ 140737488355328) (b2 : lr ≤ 140737488355328) (b3 : lt ≤ 140737488355328) :
    Calls Tryz.prog 88 #[.pointer (some ⟨b, 0, none⟩), .int .i64 h, .int .i64 n] w fun e w' => e = .returned (.bool (x == y)) ∧ ∃ k, w' = w.drewN k := by
  go_enter Tryz.func88, Tryz.ntmps88
  go_wp2
  go_quiet (fail)
  go_wp2
  go_ret
  exact ⟨rfl, _, rfl⟩
end Go.Proofs.YtnhifinfjfpoiaaGreat

namespace Go.Proofs.YtnhifinfjfpoiaaGreat
open Go.RowKit
set_option linter.unusedVariables false

/-- What is asked of a function value: it is entered as g with what it has captured; at element i it answers p i and turns nothing that lay. -/
def Asks (B : Nat) (W : World) (g : Nat) (cap : Array Value) (n : Nat) (arg : Nat → Value) (p : Nat → Bool) : Prop :=
  (∀ (args : Array Value) (w : World), (callFunc g args).run Tryz.prog w = .ok (.enter g args) w) ∧
  ∀ i, i < n → ∀ w', Below B W w' → B ≤ w'.heap.size → Calls Tryz.prog g (#[arg i] ++ cap) w' fun e w'' => e = .returned (.bool (p i)) ∧ Below w'.heap.size w' w''

/-- The first index below n at which p says yes, or -1. -/
def firstB (p : Nat → Bool) : Nat → Nat → Int
  | 0, _ => -1
  | f + 1, i => if p i then (i : Int) else firstB p f (i + 1)
theorem firstB_none {p : Nat → Bool} : ∀ {f i : Nat}, (∀ j, i ≤ j → j < i + f → p j = false) → firstB p f i = -1
  | 0, _, _ => rfl
  | f + 1, i, h => by
    rw [firstB, h i (Nat.le_refl _) (by omega)]
    exact firstB_none (fun j h1 h2 => h j (by omega) (by omega))
theorem firstB_some {p : Nat → Bool} : ∀ {f i k : Nat}, i ≤ k → k < i + f → (∀ j, i ≤ j → j < k → p j = false) → p k = true → firstB p f i = k
  | 0, _, _, h1, h2, _, _ => by omega
  | f + 1, i, k, h1, h2, h3, h4 => by
    rw [firstB]
    by_cases e : i = k
    · subst e; rw [h4]; rfl
    · rw [h3 i (Nat.le_refl _) (by omega)]
      exact firstB_some (by omega) (by omega) (fun j h5 h6 => h3 j (by omega) h6) h4
def anyB (p : Nat → Bool) (n : Nat) : Bool := (List.range n).any p
theorem firstB_any' (p : Nat → Bool) : ∀ (f i : Nat), decide (0 ≤ firstB p f i) = (List.range' i f).any p
  | 0, _ => rfl
  | f + 1, i => by
    rw [firstB, List.range'_succ, List.any_cons]
    cases h : p i
    · simpa using firstB_any' p f (i + 1)
    · simp
theorem firstB_any (p : Nat → Bool) (n i : Nat) : decide (0 ≤ firstB p n 0) = anyB p n := by
  rw [firstB_any', anyB, List.range_eq_range']

set_option maxHeartbeats 1000000 in
theorem indexRows_any (v : Value) (n : Nat) (g : Nat) (cap : Array Value) (p : Nat → Bool) (f : Nat → Value) (w : World) (h : SlAt w w.heap.size v n 1 f)
    (hf : Asks w.heap.size w g cap n (fun i => f i) p) :
    Calls Tryz.prog 130 #[v, .func (.func g) #[] cap] w fun e w' => e = .returned (.int .i64 (firstB p n 0)) ∧ Below w.heap.size w w' := by
  obtain ⟨a, c, rfl, hc, hm, hcell⟩ := h
  obtain ⟨hcall, hf⟩ := hf
  have HF := Lib.hid hf; clear hf
  have HX := Lib.hid hcell; clear hcell
  go_enter Tryz.func130, Tryz.ntmps130
  go_wp2_with fail
  go_loopw [4, 5, 8] (fun _ _ i wr => ∃ k : Nat, k ≤ n ∧ i = .int .i64 k ∧ Hid (∀ j, j < k → p j = false) ∧ Below w.heap.size w wr) (fun _ _ i _ => n - (intOf i).toNat)
  case atStart => exact ⟨0, Nat.zero_le _, rfl, fun j hj => by omega, Below.refl _ _⟩
  case round =>
    obtain ⟨k, hk, rfl, hno, hb⟩ := hrel
    by_cases hlt : k < n
    · rcases HX.out with h0 | ⟨b, off, rfl, hbl, hcell⟩
      · omega
      have hc1 : wr.cell? ⟨b, off + k, none⟩ = some (f k) := (hb.cell (p := ⟨b, off + k, none⟩) hbl).trans (hcell k (by omega))
      have HC := Lib.hid (HF.out k hlt wr hb hb.size)
      clear hcell
      go_wp2_with fail
      refine HC.out.mono ?_
      rintro e w1 ⟨rfl, hb1⟩
      have hb2 := hb.trans (hb1.mono hb.size)
      cases hp : p k
      · have HP := Lib.hid hp; clear hp
        go_wp2_with fail
        go_roundw
        case rel => exact ⟨k + 1, by omega, by go_num, fun j hj => by rcases Nat.lt_succ_iff_lt_or_eq.1 hj with h | h; exact hno.out j h; rw [h]; exact HP.out, hb2⟩
        case measure => simp [intOf]; omega
      · have HP := Lib.hid hp; clear hp
        go_wp2_with fail
        go_ret
        exact ⟨ret_int (firstB_some (Nat.zero_le _) (by omega) (fun j _ h => hno.out j h) HP.out).symm, hb2⟩
    · go_wp2_with fail
      go_ret
      exact ⟨ret_int (firstB_none (fun j _ h => hno.out j (by omega))).symm, hb⟩

theorem containsRows_any (v : Value) (n : Nat) (g : Nat) (cap : Array Value) (p : Nat → Bool) (f : Nat → Value) (w : World) (h : SlAt w w.heap.size v n 1 f)
    (hf : Asks w.heap.size w g cap n (fun i => f i) p) :
    Calls Tryz.prog 117 #[v, .func (.func g) #[] cap] w fun e w' => e = .returned (.bool (anyB p n)) ∧ Below w.heap.size w w' := by
  have hg := firstB_any p n 0
  have HG := Lib.hid hg; clear hg
  have HC := Lib.hid (indexRows_any v n g cap p f w h hf)
  clear h hf
  go_enter Tryz.func117, Tryz.ntmps117
  go_wp2_with fail
  refine HC.out.mono ?_
  rintro e w' ⟨rfl, hb⟩
  go_wp2
  go_ret
  exact ⟨ret_bool HG.out, hb⟩

set_option maxHeartbeats 1000000 in
theorem indexInts_any (v : Value) (n : Nat) (g : Nat) (cap : Array Value) (p : Nat → Bool) (f : Nat → Value) (w : World) (h : SlAt w w.heap.size v n 1 f)
    (hf : Asks w.heap.size w g cap n (fun i => f i) p) :
    Calls Tryz.prog 131 #[v, .func (.func g) #[] cap] w fun e w' => e = .returned (.int .i64 (firstB p n 0)) ∧ Below w.heap.size w w' := by
  obtain ⟨a, c, rfl, hc, hm, hcell⟩ := h
  obtain ⟨hcall, hf⟩ := hf
  have HF := Lib.hid hf; clear hf
  have HX := Lib.hid hcell; clear hcell
  go_enter Tryz.func131, Tryz.ntmps131
  go_wp2_with fail
  go_loopw [4, 5, 8] (fun _ _ i wr => ∃ k : Nat, k ≤ n ∧ i = .int .i64 k ∧ Hid (∀ j, j < k → p j = false) ∧ Below w.heap.size w wr) (fun _ _ i _ => n - (intOf i).toNat)
  case atStart => exact ⟨0, Nat.zero_le _, rfl, fun j hj => by omega, Below.refl _ _⟩
  case round =>
    obtain ⟨k, hk, rfl, hno, hb⟩ := hrel
    by_cases hlt : k < n
    · rcases HX.out with h0 | ⟨b, off, rfl, hbl, hcell⟩
      · omega
      have hc1 : wr.cell? ⟨b, off + k, none⟩ = some (f k) := (hb.cell (p := ⟨b, off + k, none⟩) hbl).trans (hcell k (by omega))
      have HC := Lib.hid (HF.out k hlt wr hb hb.size)
      clear hcell
      go_wp2_with fail
      refine HC.out.mono ?_
      rintro e w1 ⟨rfl, hb1⟩
      have hb2 := hb.trans (hb1.mono hb.size)
      cases hp : p k
      · have HP := Lib.hid hp; clear hp
        go_wp2_with fail
        go_roundw
        case rel => exact ⟨k + 1, by omega, by go_num, fun j hj => by rcases Nat.lt_succ_iff_lt_or_eq.1 hj with h | h; exact hno.out j h; rw [h]; exact HP.out, hb2⟩
        case measure => simp [intOf]; omega
      · have HP := Lib.hid hp; clear hp
        go_wp2_with fail
        go_ret
        exact ⟨ret_int (firstB_some (Nat.zero_le _) (by omega) (fun j _ h => hno.out j h) HP.out).symm, hb2⟩
    · go_wp2_with fail
      go_ret
      exact ⟨ret_int (firstB_none (fun j _ h => hno.out j (by omega))).symm, hb⟩

theorem containsInts_any (v : Value) (n : Nat) (g : Nat) (cap : Array Value) (p : Nat → Bool) (f : Nat → Value) (w : World) (h : SlAt w w.heap.size v n 1 f)
    (hf : Asks w.heap.size w g cap n (fun i => f i) p) :
    Calls Tryz.prog 119 #[v, .func (.func g) #[] cap] w fun e w' => e = .returned (.bool (anyB p n)) ∧ Below w.heap.size w w' := by
  have hg := firstB_any p n 0
  have HG := Lib.hid hg; clear hg
  have HC := Lib.hid (indexInts_any v n g cap p f w h hf)
  clear h hf
  go_enter Tryz.func119, Tryz.ntmps119
  go_wp2_with fail
  refine HC.out.mono ?_
  rintro e w' ⟨rfl, hb⟩
  go_wp2
  go_ret
  exact ⟨ret_bool HG.out, hb⟩

set_option maxHeartbeats 1000000 in
theorem indexRuns_any (v : Value) (n : Nat) (g : Nat) (cap : Array Value) (p : Nat → Bool) (f : Nat → Value) (w : World) (h : SlAt w w.heap.size v n 2 f)
    (hf : Asks w.heap.size w g cap n (fun i => .agg #[f (i * 2), f (i * 2 + 1)]) p) :
    Calls Tryz.prog 132 #[v, .func (.func g) #[] cap] w fun e w' => e = .returned (.int .i64 (firstB p n 0)) ∧ Below w.heap.size w w' := by
  obtain ⟨a, c, rfl, hc, hm, hcell⟩ := h
  obtain ⟨hcall, hf⟩ := hf
  have HF := Lib.hid hf; clear hf
  have HX := Lib.hid hcell; clear hcell
  go_enter Tryz.func132, Tryz.ntmps132
  go_wp2_with fail
  go_loopw [4, 5, 8] (fun _ _ i wr => ∃ k : Nat, k ≤ n ∧ i = .int .i64 k ∧ Hid (∀ j, j < k → p j = false) ∧ Below w.heap.size w wr) (fun _ _ i _ => n - (intOf i).toNat)
  case atStart => exact ⟨0, Nat.zero_le _, rfl, fun j hj => by omega, Below.refl _ _⟩
  case round =>
    obtain ⟨k, hk, rfl, hno, hb⟩ := hrel
    by_cases hlt : k < n
    · rcases HX.out with h0 | ⟨b, off, rfl, hbl, hcell⟩
      · omega
      have hc1 : wr.cell? ⟨b, off + k * 2, none⟩ = some (f (k * 2)) := (hb.cell (p := ⟨b, off + k * 2, none⟩) hbl).trans (hcell (k * 2) (by omega))
      have hc2 : wr.cell? ⟨b, off + k * 2 + 1, none⟩ = some (f (k * 2 + 1)) := (hb.cell (p := ⟨b, off + k * 2 + 1, none⟩) hbl).trans (by rw [Nat.add_assoc]; exact hcell (k * 2 + 1) (by omega))
      have HC := Lib.hid (HF.out k hlt wr hb hb.size)
      clear hcell
      go_wp2_with fail
      refine HC.out.mono ?_
      rintro e w1 ⟨rfl, hb1⟩
      have hb2 := hb.trans (hb1.mono hb.size)
      cases hp : p k
      · have HP := Lib.hid hp; clear hp
        go_wp2_with fail
        go_roundw
        case rel => exact ⟨k + 1, by omega, by go_num, fun j hj => by rcases Nat.lt_succ_iff_lt_or_eq.1 hj with h | h; exact hno.out j h; rw [h]; exact HP.out, hb2⟩
        case measure => simp [intOf]; omega
      · have HP := Lib.hid hp; clear hp
        go_wp2_with fail
        go_ret
        exact ⟨ret_int (firstB_some (Nat.zero_le _) (by omega) (fun j _ h => hno.out j h) HP.out).symm, hb2⟩
    · go_wp2_with fail
      go_ret
      exact ⟨ret_int (firstB_none (fun j _ h => hno.out j (by omega))).symm, hb⟩

theorem containsRuns_any (v : Value) (n : Nat) (g : Nat) (cap : Array Value) (p : Nat → Bool) (f : Nat → Value) (w : World) (h : SlAt w w.heap.size v n 2 f)
    (hf : Asks w.heap.size w g cap n (fun i => .agg #[f (i * 2), f (i * 2 + 1)]) p) :
    Calls Tryz.prog 121 #[v, .func (.func g) #[] cap] w fun e w' => e = .returned (.bool (anyB p n)) ∧ Below w.heap.size w w' := by
  have hg := firstB_any p n 0
  have HG := Lib.hid hg; clear hg
  have HC := Lib.hid (indexRuns_any v n g cap p f w h hf)
  clear h hf
  go_enter Tryz.func121, Tryz.ntmps121
  go_wp2_with fail
  refine HC.out.mono ?_
  rintro e w' ⟨rfl, hb⟩
  go_wp2
  go_ret
  exact ⟨ret_bool HG.out, hb⟩

def allB (p : Nat → Bool) (n : Nat) : Bool := !anyB (fun i => !p i) n
theorem allB_iff {p : Nat → Bool} {n : Nat} : allB p n = true ↔ ∀ i, i < n → p i = true := by
  simp [allB, anyB]

theorem everyRows_cl (v : Value) (g bx : Nat) (cap : Array Value) (q : Bool) (w : World) (hb : w.cell? ⟨bx, 0, none⟩ = some (.func (.func g) #[] cap)) (hcall : ∀ (args : Array Value) (w : World), (callFunc g args).run Tryz.prog w = .ok (.enter g args) w)
    (hf : Calls Tryz.prog g (#[v] ++ cap) w fun e w'' => e = .returned (.bool q) ∧ Below w.heap.size w w'') :
    Calls Tryz.prog 118 #[v, .pointer (some ⟨bx, 0, none⟩)] w fun e w' => e = .returned (.bool (!q)) ∧ Below w.heap.size w w' := by
  have HF := Lib.hid hf; clear hf
  go_enter Tryz.func118, Tryz.ntmps118
  go_wp2_with fail
  refine HF.out.mono ?_
  rintro e w1 ⟨rfl, hb1⟩
  go_wp2_with fail
  go_ret
  exact ⟨rfl, hb1⟩
theorem everyRows_any (v : Value) (n : Nat) (g : Nat) (cap : Array Value) (p : Nat → Bool) (f : Nat → Value) (w : World) (h : SlAt w w.heap.size v n 1 f)
    (hf : Asks w.heap.size w g cap n (fun i => f i) p) :
    Calls Tryz.prog 79 #[v, .func (.func g) #[] cap] w fun e w' => e = .returned (.bool (allB p n)) ∧ Below w.heap.size w w' := by
  have hbw : Below w.heap.size w (w.alloc (.cells #[.func (.func g) #[] cap] 121)) := (Below.refl _ _).alloc (Nat.le_refl _) _
  have hcell : (w.alloc (.cells #[.func (.func g) #[] cap] 121)).cell? ⟨w.heap.size, 0, none⟩ = some (.func (.func g) #[] cap) := by simp [go_sem]
  have HC := Lib.hid (containsRows_any v n 118 #[.pointer (some ⟨w.heap.size, 0, none⟩)] (fun i => !p i) f (w.alloc (.cells #[.func (.func g) #[] cap] 121)) ((h.below hbw (Nat.le_refl _)).mono (by simp)) (by
      refine ⟨Tryz.call118, fun i hi w' hw' hB => ?_⟩
      have hbox : w'.cell? ⟨w.heap.size, 0, none⟩ = some (.func (.func g) #[] cap) := (hw'.cell (p := ⟨w.heap.size, 0, none⟩) (by simp)).trans hcell
      exact everyRows_cl _ g w.heap.size cap (p i) w' hbox hf.1 (hf.2 i hi w' (hbw.trans (hw'.mono (by simp))) (by simp at hB; omega))))
  have HB := Lib.hid hbw
  clear h hf hcell hbw
  go_enter Tryz.func79, Tryz.ntmps79
  go_wp2_with fail
  refine HC.out.mono ?_
  rintro e w' ⟨rfl, hb⟩
  go_wp2_with fail
  go_ret
  exact ⟨rfl, HB.out.trans (hb.mono (by simp))⟩

theorem everyInts_cl (v : Value) (g bx : Nat) (cap : Array Value) (q : Bool) (w : World) (hb : w.cell? ⟨bx, 0, none⟩ = some (.func (.func g) #[] cap)) (hcall : ∀ (args : Array Value) (w : World), (callFunc g args).run Tryz.prog w = .ok (.enter g args) w)
    (hf : Calls Tryz.prog g (#[v] ++ cap) w fun e w'' => e = .returned (.bool q) ∧ Below w.heap.size w w'') :
    Calls Tryz.prog 120 #[v, .pointer (some ⟨bx, 0, none⟩)] w fun e w' => e = .returned (.bool (!q)) ∧ Below w.heap.size w w' := by
  have HF := Lib.hid hf; clear hf
  go_enter Tryz.func120, Tryz.ntmps120
  go_wp2_with fail
  refine HF.out.mono ?_
  rintro e w1 ⟨rfl, hb1⟩
  go_wp2_with fail
  go_ret
  exact ⟨rfl, hb1⟩
theorem everyInts_any (v : Value) (n : Nat) (g : Nat) (cap : Array Value) (p : Nat → Bool) (f : Nat → Value) (w : World) (h : SlAt w w.heap.size v n 1 f)
    (hf : Asks w.heap.size w g cap n (fun i => f i) p) :
    Calls Tryz.prog 81 #[v, .func (.func g) #[] cap] w fun e w' => e = .returned (.bool (allB p n)) ∧ Below w.heap.size w w' := by
  have hbw : Below w.heap.size w (w.alloc (.cells #[.func (.func g) #[] cap] 79)) := (Below.refl _ _).alloc (Nat.le_refl _) _
  have hcell : (w.alloc (.cells #[.func (.func g) #[] cap] 79)).cell? ⟨w.heap.size, 0, none⟩ = some (.func (.func g) #[] cap) := by simp [go_sem]
  have HC := Lib.hid (containsInts_any v n 120 #[.pointer (some ⟨w.heap.size, 0, none⟩)] (fun i => !p i) f (w.alloc (.cells #[.func (.func g) #[] cap] 79)) ((h.below hbw (Nat.le_refl _)).mono (by simp)) (by
      refine ⟨Tryz.call120, fun i hi w' hw' hB => ?_⟩
      have hbox : w'.cell? ⟨w.heap.size, 0, none⟩ = some (.func (.func g) #[] cap) := (hw'.cell (p := ⟨w.heap.size, 0, none⟩) (by simp)).trans hcell
      exact everyInts_cl _ g w.heap.size cap (p i) w' hbox hf.1 (hf.2 i hi w' (hbw.trans (hw'.mono (by simp))) (by simp at hB; omega))))
  have HB := Lib.hid hbw
  clear h hf hcell hbw
  go_enter Tryz.func81, Tryz.ntmps81
  go_wp2_with fail
  refine HC.out.mono ?_
  rintro e w' ⟨rfl, hb⟩
  go_wp2_with fail
  go_ret
  exact ⟨rfl, HB.out.trans (hb.mono (by simp))⟩

theorem everyRuns_cl (x y : Value) (g bx : Nat) (cap : Array Value) (q : Bool) (w : World) (hb : w.cell? ⟨bx, 0, none⟩ = some (.func (.func g) #[] cap)) (hcall : ∀ (args : Array Value) (w : World), (callFunc g args).run Tryz.prog w = .ok (.enter g args) w)
    (hf : Calls Tryz.prog g (#[.agg #[x, y]] ++ cap) (w.alloc (.cells #[x, y] 48)) fun e w'' => e = .returned (.bool q) ∧ Below (w.heap.size + 1) (w.alloc (.cells #[x, y] 48)) w'') :
    Calls Tryz.prog 122 #[.agg #[x, y], .pointer (some ⟨bx, 0, none⟩)] w fun e w' => e = .returned (.bool (!q)) ∧ Below w.heap.size w w' := by
  have HF := Lib.hid hf; clear hf
  have hb' : (w.alloc (.cells #[x, y] 48)).cell? ⟨bx, 0, none⟩ = some (.func (.func g) #[] cap) := by
    have hlt := block_lt_of_cell hb
    exact (((Below.refl w.heap.size w).alloc (Nat.le_refl _) _).cell (p := ⟨bx, 0, none⟩) hlt).trans hb
  clear hb
  go_enter Tryz.func122, Tryz.ntmps122
  go_wp2_with fail
  refine HF.out.mono ?_
  rintro e w1 ⟨rfl, hb1⟩
  go_wp2_with fail
  go_ret
  exact ⟨rfl, ((Below.refl _ _).alloc (Nat.le_refl _) _).trans (hb1.mono (by omega))⟩
theorem everyRuns_any (v : Value) (n : Nat) (g : Nat) (cap : Array Value) (p : Nat → Bool) (f : Nat → Value) (w : World) (h : SlAt w w.heap.size v n 2 f)
    (hf : Asks w.heap.size w g cap n (fun i => .agg #[f (i * 2), f (i * 2 + 1)]) p) :
    Calls Tryz.prog 84 #[v, .func (.func g) #[] cap] w fun e w' => e = .returned (.bool (allB p n)) ∧ Below w.heap.size w w' := by
  have hbw : Below w.heap.size w (w.alloc (.cells #[.func (.func g) #[] cap] 124)) := (Below.refl _ _).alloc (Nat.le_refl _) _
  have hcell : (w.alloc (.cells #[.func (.func g) #[] cap] 124)).cell? ⟨w.heap.size, 0, none⟩ = some (.func (.func g) #[] cap) := by simp [go_sem]
  have HC := Lib.hid (containsRuns_any v n 122 #[.pointer (some ⟨w.heap.size, 0, none⟩)] (fun i => !p i) f (w.alloc (.cells #[.func (.func g) #[] cap] 124)) ((h.below hbw (Nat.le_refl _)).mono (by simp)) (by
      refine ⟨Tryz.call122, fun i hi w' hw' hB => ?_⟩
      have hbox : w'.cell? ⟨w.heap.size, 0, none⟩ = some (.func (.func g) #[] cap) := (hw'.cell (p := ⟨w.heap.size, 0, none⟩) (by simp)).trans hcell
      have h2 := hf.2 i hi (w'.alloc (.cells #[f (i * 2), f (i * 2 + 1)] 48)) ((hbw.trans (hw'.mono (by simp))).trans ((Below.refl _ _).alloc (by simp at hB; omega) _)) (by simp at hB ⊢; omega)
      rw [World.size_alloc] at h2
      exact everyRuns_cl _ _ g w.heap.size cap (p i) w' hbox hf.1 h2))
  have HB := Lib.hid hbw
  clear h hf hcell hbw
  go_enter Tryz.func84, Tryz.ntmps84
  go_wp2_with fail
  refine HC.out.mono ?_
  rintro e w' ⟨rfl, hb⟩
  go_wp2_with fail
  go_ret
  exact ⟨rfl, HB.out.trans (hb.mono (by simp))⟩
end Go.Proofs.YtnhifinfjfpoiaaGreat

namespace Go.Proofs.YtnhifinfjfpoiaaGreat
open Go.RowKit Go.Maps
set_option linter.unusedVariables false

theorem runKeyed : Keyed Tryz.prog 48 := Keyed.of_law (deep_law_gate (by kernel_rfl) (of_decide_eq_true (by kernel_rfl)) (of_decide_eq_true (by kernel_rfl)) (by kernel_rfl) (by kernel_rfl))
def runVal (p : Int × Int) : Value := .agg #[.int .i64 p.1, .int .i64 p.2]
noncomputable def runKey (p : Int × Int) : Lit := (keyOf Tryz.prog 48 (runVal p)).getD .nil
theorem wfI {n : Int} (h : I64 n) : (Lit.int .i64 n).wf = true := WalkArith.wf_i64 h
theorem typesSize : Tryz.prog.types.size + 1 = (Tryz.prog.types.size - 1) + 2 := by kernel_rfl
theorem runCells : Tryz.prog.cellsOf 48 = 2 := by kernel_rfl
theorem intCells : Tryz.prog.cellsOf 3 = 1 := by kernel_rfl
theorem runKeyT : Tryz.prog.keyType 48 = true := by kernel_rfl
theorem keyLits_run (m : Nat) (x y : Int) (hx : (Lit.int .i64 x).wf = true) (hy : (Lit.int .i64 y).wf = true) : Tryz.prog.keyLits (m + 2) 48 [.int .i64 x, .int .i64 y] = some [.int .i64 x, .int .i64 y] := by
  have e3 : ∀ z, (Lit.int .i64 z).wf = true → Tryz.prog.keyLits (m + 1) 3 [.int .i64 z] = some [.int .i64 z] := by
    intro z hz
    unfold Program.keyLits
    rw [Tryz.underlying3]
    simp [hz]
  unfold Program.keyLits
  rw [Tryz.underlying48]
  simp [runCells, intCells, e3 x hx, e3 y hy]
theorem runFormed (p : Int × Int) : (runVal p).formed Tryz.prog 48 = true := by
  unfold runVal Value.formed
  simp [Tryz.underlying48, runCells]
theorem keyOf_run (x y : Int) (hx : (Lit.int .i64 x).wf = true) (hy : (Lit.int .i64 y).wf = true) : keyOf Tryz.prog 48 (runVal (x, y)) = some (.string (keyBytes [.int .i64 x, .int .i64 y])) := by
  unfold keyOf
  rw [Tryz.underlying48, runKeyT, runFormed, typesSize]
  simp only [Bool.and_self, if_true]
  have := keyLits_run (Tryz.prog.types.size - 1) x y hx hy
  unfold runVal Value.cells
  simp only []
  rw [this]
  rfl
theorem runKey_of (p : Int × Int) (h1 : I64 p.1) (h2 : I64 p.2) : keyOf Tryz.prog 48 (runVal p) = some (runKey p) := by
  obtain ⟨x, y⟩ := p
  unfold runKey
  rw [keyOf_run x y (wfI h1) (wfI h2)]
  simp only [Option.getD_some]
attribute [irreducible] runKey
theorem runKey_inj {p q : Int × Int} (hp1 : I64 p.1) (hp2 : I64 p.2) (hq1 : I64 q.1) (hq2 : I64 q.2) (h : runKey p = runKey q) : p = q := by
  have e := runKeyed.inj (runKey_of p hp1 hp2) (by rw [h]; exact runKey_of q hq1 hq2)
  obtain ⟨a, b⟩ := p
  obtain ⟨c, d⟩ := q
  simp [runVal] at e
  exact Prod.ext e.1 e.2

/-- Block b is a map from pairs to bools, of at most n entries, in which S says what is true. -/
def RunSet (w : World) (b n : Nat) (S : Int × Int → Bool) : Prop :=
  ∃ D : DataW Unit, w.ownsMap Tryz.prog 48 (plainElem Tryz.prog 4) b n D ∧ ∀ p : Int × Int, I64 p.1 → I64 p.2 → D.atKey (runKey p) (.lit (.bool false)) = .lit (.bool (S p))
theorem RunSet.made (w : World) : RunSet (w.alloc (.map #[] 0)) w.heap.size 0 (fun _ => false) :=
  ⟨.map [], World.ownsMap_made _ _ _ _, fun p _ _ => rfl⟩
theorem plainElem_bool_inv {H : Type} {P : Program} {e : TypeId} (he : P.underlying e = some .bool) {v : Value} {z : DataW H × List MemPlace} (h : plainElem P e v = some z) : ∃ x, v = .bool x ∧ z = (.lit (.bool x), []) := by
  unfold plainElem at h
  rw [he] at h
  cases v <;> simp at h
  rename_i x
  exact ⟨x, rfl, h.symm⟩
theorem RunSet.look {w : World} {b n : Nat} {S : Int × Int → Bool} (h : RunSet w b n S) (p : Int × Int) (h1 : I64 p.1) (h2 : I64 p.2) :
    (Instr.lookup 125 (.map (some b)) (runVal p) false).run Tryz.prog w = .ok (.bool (S p)) w := by
  obtain ⟨D, hown, hS⟩ := h
  obtain ⟨v, ps, hrun, hv⟩ := hown.lookup runKeyed Tryz.underlying125 (z := .bool false) (by kernel_rfl) (zd := .lit (.bool false)) (zp := []) (plainElem_bool Tryz.underlying4 false) (runKey_of p h1 h2)
  rw [hS p h1 h2] at hv
  obtain ⟨x, rfl, hx⟩ := plainElem_bool_inv Tryz.underlying4 hv
  simp at hx
  rw [hrun, hx.1]
theorem RunSet.put {w : World} {b n : Nat} {S : Int × Int → Bool} (h : RunSet w b n S) (hn : n < maxLen) (p : Int × Int) (h1 : I64 p.1) (h2 : I64 p.2) :
    ∃ w', (Instr.mapUpdate 125 (.map (some b)) (runVal p) (.bool true)).run Tryz.prog w = .ok () w' ∧ RunSet w' b (n + 1) (fun q => q == p || S q) ∧ w.grownBy w' (some b) := by
  obtain ⟨D, hown, hS⟩ := h
  obtain ⟨w', hrun, hown', hg⟩ := hown.update runKeyed Tryz.underlying125 hn (runKey_of p h1 h2) (plainElem_bool Tryz.underlying4 true)
  refine ⟨w', hrun, ⟨_, hown', fun q q1 q2 => ?_⟩, hg⟩
  by_cases e : q = p
  · subst e
    rw [Maps.atKey_put_same hown.isMap (runKeyed.key (runKey_of q h1 h2))]
    simp
  · rw [Maps.atKey_put_other (fun h => e (runKey_inj q1 q2 h1 h2 h)), hS q q1 q2]
    have : (q == p) = false := by simpa using e
    show _ = DataW.lit (Lit.bool (q == p || S q))
    rw [this, Bool.false_or]
theorem RunSet.kept {w w' : World} {b n : Nat} {S : Int × Int → Bool} (h : RunSet w b n S) (hb : Below (b + 1) w w') : RunSet w' b n S := by
  obtain ⟨D, ⟨es, clock, hh, r⟩, hS⟩ := h
  exact ⟨D, ⟨es, clock, (hb.block b (by omega)).trans hh, r⟩, hS⟩
end Go.Proofs.YtnhifinfjfpoiaaGreat

namespace Go.Proofs.YtnhifinfjfpoiaaGreat
open Go.RowKit

def badCount1 (c : Col) : Bool := !inB c.rooms.length 1 6 || c.traps.length != c.rooms.length || decide (12 < c.runs.length) || decide (6 < c.nights.length)
def okRow (c : Col) (i : Nat) : Bool := (nthR c.nights i).length == c.rooms.length
def badCount2 (c : Col) : Bool := !allB (okRow c) c.nights.length
def badRooms (c : Col) : Bool := !allB (fun i => inB (nth c.rooms i) 0 60) c.rooms.length
def badTraps (c : Col) : Bool := !allB (fun i => inB (nth c.traps i) 0 9) c.traps.length
def okNight (c : Col) (i h : Nat) : Bool := inB (nth (nthR c.nights i) h) 0 (nth c.traps h)
def badNights (c : Col) : Bool := !allB (fun i => allB (okNight c i) (nthR c.nights i).length) c.nights.length
def okRun (c : Col) (i : Nat) : Bool := inB (nthP c.runs i).1 0 (c.rooms.length - 1) && inB (nthP c.runs i).2 0 (c.rooms.length - 1)
def badRuns (c : Col) : Bool := !allB (okRun c) c.runs.length
def okTwice (c : Col) (i : Nat) : Bool := (nthP c.runs i).1 != (nthP c.runs i).2 && allB (fun k => !joinsB (nthP c.runs k) (nthP c.runs i).1 (nthP c.runs i).2) i
def badTwice (c : Col) : Bool := !allB (okTwice c) c.runs.length
def checkC (c : Col) : Int :=
  if badCount1 c then 3 else if badCount2 c then 3 else if badRooms c || badTraps c then 4 else if badNights c then 4 else if badRuns c then 2 else if badTwice c then 5 else 0

theorem allB_false {p : Nat → Bool} {n i : Nat} (h : i < n) (hp : p i = false) : allB p n = false := by
  cases ha : allB p n
  · rfl
  · rw [allB_iff] at ha; rw [ha i h] at hp; cases hp
theorem allB_true {p : Nat → Bool} {n : Nat} (h : ∀ i, i < n → p i = true) : allB p n = true := allB_iff.2 h

structure OkCol (c : Col) : Prop where
  houses : 1 ≤ c.rooms.length ∧ c.rooms.length ≤ 6
  traps : c.traps.length = c.rooms.length
  runs : c.runs.length ≤ 12
  nights : c.nights.length ≤ 6
  row : ∀ i, i < c.nights.length → (nthR c.nights i).length = c.rooms.length
  room : ∀ i, i < c.rooms.length → 0 ≤ nth c.rooms i ∧ nth c.rooms i ≤ 60
  trap : ∀ i, i < c.rooms.length → 0 ≤ nth c.traps i ∧ nth c.traps i ≤ 9
  night : ∀ i h, i < c.nights.length → h < c.rooms.length → 0 ≤ nth (nthR c.nights i) h ∧ nth (nthR c.nights i) h ≤ nth c.traps h
  run : ∀ i, i < c.runs.length → 0 ≤ (nthP c.runs i).1 ∧ (nthP c.runs i).1 < c.rooms.length ∧ 0 ≤ (nthP c.runs i).2 ∧ (nthP c.runs i).2 < c.rooms.length
  differ : ∀ i, i < c.runs.length → (nthP c.runs i).1 ≠ (nthP c.runs i).2
  once : ∀ i k, i < c.runs.length → k < i → joinsB (nthP c.runs k) (nthP c.runs i).1 (nthP c.runs i).2 = false

theorem okCol_of {c : Col} (h : checkC c = 0) : OkCol c := by
  unfold checkC at h
  by_cases b1 : badCount1 c = true
  · rw [if_pos b1] at h; cases h
  rw [if_neg b1] at h
  by_cases b2 : badCount2 c = true
  · rw [if_pos b2] at h; cases h
  rw [if_neg b2] at h
  by_cases b3 : (badRooms c || badTraps c) = true
  · rw [if_pos b3] at h; cases h
  rw [if_neg b3] at h
  by_cases b4 : badNights c = true
  · rw [if_pos b4] at h; cases h
  rw [if_neg b4] at h
  by_cases b5 : badRuns c = true
  · rw [if_pos b5] at h; cases h
  rw [if_neg b5] at h
  by_cases b6 : badTwice c = true
  · rw [if_pos b6] at h; cases h
  simp only [badCount1, Bool.or_eq_true, Bool.not_eq_true', bne_iff_ne, decide_eq_true_eq, not_or, Bool.not_eq_false, Decidable.not_not, Nat.not_lt] at b1
  obtain ⟨⟨⟨a1, a2⟩, a3⟩, a4⟩ := b1
  have a1 := inB_true a1
  simp only [badCount2, Bool.not_eq_true', Bool.not_eq_false, allB_iff, okRow, beq_iff_eq] at b2
  simp only [badRooms, badTraps, Bool.or_eq_true, not_or, Bool.not_eq_true', Bool.not_eq_false, allB_iff] at b3
  simp only [badNights, Bool.not_eq_true', Bool.not_eq_false, allB_iff, okNight] at b4
  simp only [badRuns, Bool.not_eq_true', Bool.not_eq_false, allB_iff, okRun, Bool.and_eq_true] at b5
  simp only [badTwice, Bool.not_eq_true', Bool.not_eq_false, allB_iff, okTwice, Bool.and_eq_true, bne_iff_ne] at b6
  exact { houses := by omega, traps := a2, runs := a3, nights := a4, row := b2, room := fun i hi => inB_true (b3.1 i hi), trap := fun i hi => inB_true (b3.2 i (by omega)),
          night := fun i h hi hh => inB_true (b4 i hi h (by rw [b2 i hi]; exact hh)),
          run := fun i hi => by have x := inB_true (b5 i hi).1; have y := inB_true (b5 i hi).2; omega,
          differ := fun i hi => (b6 i hi).1, once := fun i k hi hk => by have := (b6 i hi).2 k hk; simpa using this }
end Go.Proofs.YtnhifinfjfpoiaaGreat

namespace Go.Proofs.YtnhifinfjfpoiaaGreat
open Go.RowKit
set_option linter.unusedVariables false

theorem ints_ext {a b : List Int} (h : a.length = b.length) (k : ∀ j, j < a.length → nth a j = nth b j) : a = b := by
  refine List.ext_getElem h fun i h1 h2 => ?_
  have := k i h1
  rwa [nth_eq h1, nth_eq h2] at this
theorem pairs_ext {a b : List (Int × Int)} (h : a.length = b.length) (k : ∀ j, j < a.length → nthP a j = nthP b j) : a = b := by
  refine List.ext_getElem h fun i h1 h2 => ?_
  have := k i h1
  rwa [nthP_eq h1, nthP_eq h2] at this
theorem rows_ext {a b : List (List Int)} (h : a.length = b.length) (k : ∀ j, j < a.length → nthR a j = nthR b j) : a = b := by
  refine List.ext_getElem h fun i h1 h2 => ?_
  have := k i h1
  rwa [nthR_eq h1, nthR_eq h2] at this

set_option maxHeartbeats 1000000 in
theorem alike_any (a b : List Int) (va vb : Value) (w : World) (ha : IsInts w w.heap.size va a) (hb : IsInts w w.heap.size vb b) :
    Calls Tryz.prog 11 #[va, vb] w fun e w' => e = .returned (.bool (decide (a = b))) ∧ w = w' := by
  obtain ⟨aa, ca, rfl, a1, a2, a3⟩ := ha.open
  obtain ⟨ab, cb, rfl, b1, b2, b3⟩ := hb.open
  have HA := Lib.hid a3; have HB := Lib.hid b3
  clear ha hb a3 b3
  by_cases hl : a.length = b.length
  · rw [← hl] at HB b1 b2 ⊢
    have HL := Lib.hid hl; clear hl
    go_enter Tryz.func11, Tryz.ntmps11
    go_wp2_with fail
    go_loopw [14] (fun i wr => ∃ k : Nat, k ≤ a.length ∧ i = .int .i64 k ∧ Hid (∀ j, j < k → nth a j = nth b j) ∧ w = wr) (fun i _ => a.length - (intOf i).toNat)
    case atStart => exact ⟨0, Nat.zero_le _, rfl, fun j hj => by omega, rfl⟩
    case round =>
      obtain ⟨k, hk, rfl, hdone, rfl⟩ := hrel
      by_cases hlt : k < a.length
      · have hki : (k : Int) < a.length := by omega
        obtain ⟨ba, oa, rfl, la, m1⟩ := HA.out k hlt
        obtain ⟨bb, ob, rfl, lb, m2⟩ := HB.out k hlt
        cases hq : (nth a k == nth b k)
        · have HQ := Lib.hid hq
          go_wp2_with fail
          go_ret
          refine ⟨ret_bool ?_, rfl⟩
          rw [eq_comm, decide_eq_false_iff_not]
          intro e
          have := HQ.out
          rw [e] at this
          simp at this
        · have HQ := Lib.hid hq
          go_wp2_with fail
          go_roundw
          case rel =>
            refine ⟨k + 1, by omega, by go_num, fun j hj => ?_, by simp⟩
            rcases Nat.lt_succ_iff_lt_or_eq.1 hj with q | q
            · exact hdone.out j q
            · subst q
              have := HQ.out
              simpa using this
          case measure => simp [intOf]; omega
      · obtain rfl : k = a.length := by omega
        go_wp2_with fail
        go_ret
        refine ⟨ret_bool ?_, rfl⟩
        rw [eq_comm, decide_eq_true_iff]
        exact ints_ext HL.out hdone.out
  · have HL := Lib.hid hl
    have e2 : (a.length == b.length) = false := by simpa using hl
    go_enter Tryz.func11, Tryz.ntmps11
    go_wp2_with fail
    go_ret
    exact ⟨ret_bool (by rw [eq_comm, decide_eq_false_iff_not]; intro e; exact HL.out (by rw [e])), rfl⟩

set_option maxHeartbeats 1000000 in
theorem alikeRows_any (a b : List (List Int)) (va vb : Value) (w : World) (ha : IsRows w w.heap.size va a) (hb : IsRows w w.heap.size vb b) :
    Calls Tryz.prog 60 #[va, vb] w fun e w' => e = .returned (.bool (decide (a = b))) ∧ w = w' := by
  obtain ⟨aa, ca, rfl, a1, a2, a3⟩ := ha.open
  obtain ⟨ab, cb, rfl, b1, b2, b3⟩ := hb.open
  have HA := Lib.hid a3; have HB := Lib.hid b3
  clear ha hb a3 b3
  by_cases hl : a.length = b.length
  · rw [← hl] at HB b1 b2 ⊢
    have HL := Lib.hid hl; clear hl
    go_enter Tryz.func60, Tryz.ntmps60
    go_wp2_with fail
    go_loopw [14] (fun i wr => ∃ k : Nat, k ≤ a.length ∧ i = .int .i64 k ∧ Hid (∀ j, j < k → nthR a j = nthR b j) ∧ w = wr) (fun i _ => a.length - (intOf i).toNat)
    case atStart => exact ⟨0, Nat.zero_le _, rfl, fun j hj => by omega, rfl⟩
    case round =>
      obtain ⟨k, hk, rfl, hdone, rfl⟩ := hrel
      by_cases hlt : k < a.length
      · have hki : (k : Int) < a.length := by omega
        obtain ⟨ba, oa, ua, rfl, la, m1, ra⟩ := HA.out k hlt
        obtain ⟨bb, ob, ub, rfl, lb, m2, rb⟩ := HB.out k hlt
        have HC := Lib.hid (alike_any _ _ _ _ w ra rb)
        obtain ⟨_, _, rfl, _⟩ := ra.open
        obtain ⟨_, _, rfl, _⟩ := rb.open
        clear ra rb
        cases hq : decide (nthR a k = nthR b k)
        · rw [hq] at HC
          have HQ := Lib.hid hq
          clear hq
          go_wp2_with (go_at_call 11; refine HC.out.mono ?_; rintro e w5 ⟨rfl, rfl⟩)
          go_ret
          refine ⟨ret_bool ?_, rfl⟩
          rw [eq_comm, decide_eq_false_iff_not]
          intro e
          have := HQ.out
          rw [e] at this
          simp at this
        · rw [hq] at HC
          have HQ := Lib.hid hq
          clear hq
          go_wp2_with (go_at_call 11; refine HC.out.mono ?_; rintro e w5 ⟨rfl, rfl⟩)
          go_roundw
          case rel =>
            refine ⟨k + 1, by omega, by go_num, fun j hj => ?_, by simp⟩
            rcases Nat.lt_succ_iff_lt_or_eq.1 hj with q | q
            · exact hdone.out j q
            · subst q
              have := HQ.out
              simpa using this
          case measure => simp [intOf]; omega
      · obtain rfl : k = a.length := by omega
        go_wp2_with fail
        go_ret
        refine ⟨ret_bool ?_, rfl⟩
        rw [eq_comm, decide_eq_true_iff]
        exact rows_ext HL.out hdone.out
  · have HL := Lib.hid hl
    have e2 : (a.length == b.length) = false := by simpa using hl
    go_enter Tryz.func60, Tryz.ntmps60
    go_wp2_with fail
    go_ret
    exact ⟨ret_bool (by rw [eq_comm, decide_eq_false_iff_not]; intro e; exact HL.out (by rw [e])), rfl⟩

theorem neq_Span (w : World) (a b c d : Int) : (binOp .neq 59 (.agg #[.int .i64 a, .int .i64 b]) (.agg #[.int .i64 c, .int .i64 d])).run Tryz.prog w = .ok (.bool (!(a == c && b == d))) w := by
  have h1 : Tryz.prog.underlying 59 = some (.struct (Tryz.prog.fieldsOf 59)) := by kernel_rfl
  have h2 : Tryz.prog.stoodInHeld 59 = false := by kernel_rfl
  have h3 : (Tryz.prog.fieldsOf 59).toList.map (fun f => (f.name == "_", f.type, f.offset)) = [(false, 3, 0), (false, 3, 1)] := by kernel_rfl
  have h4 : Tryz.prog.underlying 3 = some (.int .i64) := Tryz.underlying3
  rw [run_neq_struct, run_equalIn_struct w 9999 _ _ _ h1 h2]
  obtain ⟨f, g, e1, e2, e3, e4, e5, e6, e7⟩ : ∃ f g : Field, (Tryz.prog.fieldsOf 59).toList = [f, g] ∧ f.name ≠ "_" ∧ g.name ≠ "_" ∧ f.type = 3 ∧ g.type = 3 ∧ f.offset = 0 ∧ g.offset = 1 := by
    rcases h : (Tryz.prog.fieldsOf 59).toList with _ | ⟨f, _ | ⟨g, _ | ⟨x, l⟩⟩⟩
    all_goals rw [h] at h3; simp at h3
    exact ⟨f, g, rfl, h3.1.1, h3.2.1, h3.1.2.1, h3.2.2.1, h3.1.2.2, h3.2.2.2⟩
  rw [e1]
  have p0 : ∀ (x y : Int) (w : World), (part 3 #[Value.int .i64 x, .int .i64 y] 0).run Tryz.prog w = .ok (.int .i64 x) w := fun _ _ _ => by kernel_rfl
  have p1 : ∀ (x y : Int) (w : World), (part 3 #[Value.int .i64 x, .int .i64 y] 1).run Tryz.prog w = .ok (.int .i64 y) w := fun _ _ _ => by kernel_rfl
  have q1 := fun (x y : Int) (w : World) => run_equalIn_int (P := Tryz.prog) w 9998 3 .i64 .i64 x y h4
  cases hac : a == c <;> cases hbd : b == d <;> simp [Op.eqFields, e2, e3, e4, e5, e6, e7, p0, p1, q1, hac, hbd]

set_option maxRecDepth 100000 in
set_option maxHeartbeats 1000000 in
theorem alikeSpan_any (a b : List (Int × Int)) (va vb : Value) (w : World) (ha : IsPairs w w.heap.size va a) (hb : IsPairs w w.heap.size vb b) :
    Calls Tryz.prog 33 #[va, vb] w fun e w' => e = .returned (.bool (decide (a = b))) ∧ Below w.heap.size w w' := by
  obtain ⟨aa, ca, rfl, a1, a2, a3⟩ := ha.open
  obtain ⟨ab, cb, rfl, b1, b2, b3⟩ := hb.open
  have HA := Lib.hid a3; have HB := Lib.hid b3
  clear ha hb a3 b3
  by_cases hl : a.length = b.length
  · rw [← hl] at HB b1 b2 ⊢
    have HL := Lib.hid hl; clear hl
    go_enter Tryz.func33, Tryz.ntmps33
    go_wp2_with fail
    go_loopw [14] (fun i wr => ∃ k : Nat, k ≤ a.length ∧ i = .int .i64 k ∧ Hid (∀ j, j < k → nthP a j = nthP b j) ∧ Hid (Below w.heap.size w wr)) (fun i _ => a.length - (intOf i).toNat)
    case atStart => exact ⟨0, Nat.zero_le _, rfl, fun j hj => by omega, Below.refl _ _⟩
    case round =>
      obtain ⟨k, hk, rfl, hdone, hB⟩ := hrel
      by_cases hlt : k < a.length
      · have hki : (k : Int) < a.length := by omega
        obtain ⟨ba, oa, rfl, la, ma1, ma2⟩ := HA.out k hlt
        obtain ⟨bb, ob, rfl, lb, mb1, mb2⟩ := HB.out k hlt
        have m1 := (hB.out.cell (p := ⟨ba, oa + k * 2, none⟩) la).trans ma1
        have m2 := (hB.out.cell (p := ⟨ba, oa + k * 2 + 1, none⟩) la).trans ma2
        have m3 := (hB.out.cell (p := ⟨bb, ob + k * 2, none⟩) lb).trans mb1
        have m4 := (hB.out.cell (p := ⟨bb, ob + k * 2 + 1, none⟩) lb).trans mb2
        have hB2 : Below w.heap.size w (wr.alloc (.cells #[.int .i64 (nthP a k).1, .int .i64 (nthP a k).2] 59)) := hB.out.alloc hB.out.size _
        have n1 := (((Below.refl wr.heap.size wr).alloc (Nat.le_refl _) (.cells #[.int .i64 (nthP a k).1, .int .i64 (nthP a k).2] 59)).cell (p := ⟨bb, ob + k * 2, none⟩) (Nat.lt_of_lt_of_le lb hB.out.size)).trans m3
        have n2 := (((Below.refl wr.heap.size wr).alloc (Nat.le_refl _) (.cells #[.int .i64 (nthP a k).1, .int .i64 (nthP a k).2] 59)).cell (p := ⟨bb, ob + k * 2 + 1, none⟩) (Nat.lt_of_lt_of_le lb hB.out.size)).trans m4
        have hs1 : (wr.alloc (.cells #[.int .i64 (nthP a k).1, .int .i64 (nthP a k).2] 59)).cell? ⟨wr.heap.size, 0, none⟩ = some (.int .i64 (nthP a k).1) := by simp [go_sem]
        have hs2 : (wr.alloc (.cells #[.int .i64 (nthP a k).1, .int .i64 (nthP a k).2] 59)).cell? ⟨wr.heap.size, 1, none⟩ = some (.int .i64 (nthP a k).2) := by simp [go_sem]
        have HB2 := Lib.hid hB2
        have hneq := fun w => neq_Span w (nthP a k).1 (nthP a k).2 (nthP b k).1 (nthP b k).2
        have HNE := Lib.hid hneq
        clear ma1 ma2 mb1 mb2 hB2 m3 m4 hneq
        go_wp2_with fail
        obtain ⟨W, hW⟩ : ∃ W, wr.alloc (.cells #[.int .i64 (nthP a k).1, .int .i64 (nthP a k).2] 59) = W := ⟨_, rfl⟩
        rw [hW] at n1 n2 hs1 hs2 HB2 ⊢
        clear hW m1 m2
        have hneq := HNE.out
        cases hq : ((nthP a k).1 == (nthP b k).1 && (nthP a k).2 == (nthP b k).2)
        · have HQ := Lib.hid hq
          simp only [hq] at hneq
          clear hq
          go_quiet (fail)
          go_wp2_with fail
          go_ret
          refine ⟨ret_bool ?_, Below.drewN HB2.out _⟩
          rw [eq_comm, decide_eq_false_iff_not]
          intro e
          have := HQ.out
          rw [e] at this
          simp at this
        · have HQ := Lib.hid hq
          simp only [hq] at hneq
          clear hq
          go_quiet (fail)
          go_wp2_with fail
          go_roundw
          case rel =>
            refine ⟨k + 1, by omega, by go_num, fun j hj => ?_, Below.drewN HB2.out _⟩
            rcases Nat.lt_succ_iff_lt_or_eq.1 hj with q | q
            · exact hdone.out j q
            · subst q
              have := HQ.out
              simp at this
              exact Prod.ext this.1 this.2
          case measure => simp [intOf]; omega
      · obtain rfl : k = a.length := by omega
        go_wp2_with fail
        go_ret
        refine ⟨ret_bool ?_, hB.out⟩
        rw [eq_comm, decide_eq_true_iff]
        exact pairs_ext HL.out hdone.out
  · have e1 : ¬ (a.length : Int) = b.length := by omega
    have HL := Lib.hid hl
    have e2 : (a.length == b.length) = false := by simpa using hl
    go_enter Tryz.func33, Tryz.ntmps33
    go_wp2_with fail
    go_ret
    exact ⟨ret_bool (by rw [eq_comm, decide_eq_false_iff_not]; intro e; exact HL.out (by rw [e])), Below.refl _ _⟩

theorem neq_Run (w : World) (a b c d : Int) : (binOp .neq 48 (.agg #[.int .i64 a, .int .i64 b]) (.agg #[.int .i64 c, .int .i64 d])).run Tryz.prog w = .ok (.bool (!(a == c && b == d))) w := by
  have h1 : Tryz.prog.underlying 48 = some (.struct (Tryz.prog.fieldsOf 48)) := by kernel_rfl
  have h2 : Tryz.prog.stoodInHeld 48 = false := by kernel_rfl
  have h3 : (Tryz.prog.fieldsOf 48).toList.map (fun f => (f.name == "_", f.type, f.offset)) = [(false, 3, 0), (false, 3, 1)] := by kernel_rfl
  have h4 : Tryz.prog.underlying 3 = some (.int .i64) := Tryz.underlying3
  rw [run_neq_struct, run_equalIn_struct w 9999 _ _ _ h1 h2]
  obtain ⟨f, g, e1, e2, e3, e4, e5, e6, e7⟩ : ∃ f g : Field, (Tryz.prog.fieldsOf 48).toList = [f, g] ∧ f.name ≠ "_" ∧ g.name ≠ "_" ∧ f.type = 3 ∧ g.type = 3 ∧ f.offset = 0 ∧ g.offset = 1 := by
    rcases h : (Tryz.prog.fieldsOf 48).toList with _ | ⟨f, _ | ⟨g, _ | ⟨x, l⟩⟩⟩
    all_goals rw [h] at h3; simp at h3
    exact ⟨f, g, rfl, h3.1.1, h3.2.1, h3.1.2.1, h3.2.2.1, h3.1.2.2, h3.2.2.2⟩
  rw [e1]
  have p0 : ∀ (x y : Int) (w : World), (part 3 #[Value.int .i64 x, .int .i64 y] 0).run Tryz.prog w = .ok (.int .i64 x) w := fun _ _ _ => by kernel_rfl
  have p1 : ∀ (x y : Int) (w : World), (part 3 #[Value.int .i64 x, .int .i64 y] 1).run Tryz.prog w = .ok (.int .i64 y) w := fun _ _ _ => by kernel_rfl
  have q1 := fun (x y : Int) (w : World) => run_equalIn_int (P := Tryz.prog) w 9998 3 .i64 .i64 x y h4
  cases hac : a == c <;> cases hbd : b == d <;> simp [Op.eqFields, e2, e3, e4, e5, e6, e7, p0, p1, q1, hac, hbd]

set_option maxRecDepth 100000 in
set_option maxHeartbeats 1000000 in
theorem alikeRun_any (a b : List (Int × Int)) (va vb : Value) (w : World) (ha : IsPairs w w.heap.size va a) (hb : IsPairs w w.heap.size vb b) :
    Calls Tryz.prog 59 #[va, vb] w fun e w' => e = .returned (.bool (decide (a = b))) ∧ Below w.heap.size w w' := by
  obtain ⟨aa, ca, rfl, a1, a2, a3⟩ := ha.open
  obtain ⟨ab, cb, rfl, b1, b2, b3⟩ := hb.open
  have HA := Lib.hid a3; have HB := Lib.hid b3
  clear ha hb a3 b3
  by_cases hl : a.length = b.length
  · rw [← hl] at HB b1 b2 ⊢
    have HL := Lib.hid hl; clear hl
    go_enter Tryz.func59, Tryz.ntmps59
    go_wp2_with fail
    go_loopw [14] (fun i wr => ∃ k : Nat, k ≤ a.length ∧ i = .int .i64 k ∧ Hid (∀ j, j < k → nthP a j = nthP b j) ∧ Hid (Below w.heap.size w wr)) (fun i _ => a.length - (intOf i).toNat)
    case atStart => exact ⟨0, Nat.zero_le _, rfl, fun j hj => by omega, Below.refl _ _⟩
    case round =>
      obtain ⟨k, hk, rfl, hdone, hB⟩ := hrel
      by_cases hlt : k < a.length
      · have hki : (k : Int) < a.length := by omega
        obtain ⟨ba, oa, rfl, la, ma1, ma2⟩ := HA.out k hlt
        obtain ⟨bb, ob, rfl, lb, mb1, mb2⟩ := HB.out k hlt
        have m1 := (hB.out.cell (p := ⟨ba, oa + k * 2, none⟩) la).trans ma1
        have m2 := (hB.out.cell (p := ⟨ba, oa + k * 2 + 1, none⟩) la).trans ma2
        have m3 := (hB.out.cell (p := ⟨bb, ob + k * 2, none⟩) lb).trans mb1
        have m4 := (hB.out.cell (p := ⟨bb, ob + k * 2 + 1, none⟩) lb).trans mb2
        have hB2 : Below w.heap.size w (wr.alloc (.cells #[.int .i64 (nthP a k).1, .int .i64 (nthP a k).2] 48)) := hB.out.alloc hB.out.size _
        have n1 := (((Below.refl wr.heap.size wr).alloc (Nat.le_refl _) (.cells #[.int .i64 (nthP a k).1, .int .i64 (nthP a k).2] 48)).cell (p := ⟨bb, ob + k * 2, none⟩) (Nat.lt_of_lt_of_le lb hB.out.size)).trans m3
        have n2 := (((Below.refl wr.heap.size wr).alloc (Nat.le_refl _) (.cells #[.int .i64 (nthP a k).1, .int .i64 (nthP a k).2] 48)).cell (p := ⟨bb, ob + k * 2 + 1, none⟩) (Nat.lt_of_lt_of_le lb hB.out.size)).trans m4
        have hs1 : (wr.alloc (.cells #[.int .i64 (nthP a k).1, .int .i64 (nthP a k).2] 48)).cell? ⟨wr.heap.size, 0, none⟩ = some (.int .i64 (nthP a k).1) := by simp [go_sem]
        have hs2 : (wr.alloc (.cells #[.int .i64 (nthP a k).1, .int .i64 (nthP a k).2] 48)).cell? ⟨wr.heap.size, 1, none⟩ = some (.int .i64 (nthP a k).2) := by simp [go_sem]
        have HB2 := Lib.hid hB2
        have hneq := fun w => neq_Run w (nthP a k).1 (nthP a k).2 (nthP b k).1 (nthP b k).2
        have HNE := Lib.hid hneq
        clear ma1 ma2 mb1 mb2 hB2 m3 m4 hneq
        go_wp2_with fail
        obtain ⟨W, hW⟩ : ∃ W, wr.alloc (.cells #[.int .i64 (nthP a k).1, .int .i64 (nthP a k).2] 48) = W := ⟨_, rfl⟩
        rw [hW] at n1 n2 hs1 hs2 HB2 ⊢
        clear hW m1 m2
        have hneq := HNE.out
        cases hq : ((nthP a k).1 == (nthP b k).1 && (nthP a k).2 == (nthP b k).2)
        · have HQ := Lib.hid hq
          simp only [hq] at hneq
          clear hq
          go_quiet (fail)
          go_wp2_with fail
          go_ret
          refine ⟨ret_bool ?_, Below.drewN HB2.out _⟩
          rw [eq_comm, decide_eq_false_iff_not]
          intro e
          have := HQ.out
          rw [e] at this
          simp at this
        · have HQ := Lib.hid hq
          simp only [hq] at hneq
          clear hq
          go_quiet (fail)
          go_wp2_with fail
          go_roundw
          case rel =>
            refine ⟨k + 1, by omega, by go_num, fun j hj => ?_, Below.drewN HB2.out _⟩
            rcases Nat.lt_succ_iff_lt_or_eq.1 hj with q | q
            · exact hdone.out j q
            · subst q
              have := HQ.out
              simp at this
              exact Prod.ext this.1 this.2
          case measure => simp [intOf]; omega
      · obtain rfl : k = a.length := by omega
        go_wp2_with fail
        go_ret
        refine ⟨ret_bool ?_, hB.out⟩
        rw [eq_comm, decide_eq_true_iff]
        exact pairs_ext HL.out hdone.out
  · have e1 : ¬ (a.length : Int) = b.length := by omega
    have HL := Lib.hid hl
    have e2 : (a.length == b.length) = false := by simpa using hl
    go_enter Tryz.func59, Tryz.ntmps59
    go_wp2_with fail
    go_ret
    exact ⟨ret_bool (by rw [eq_comm, decide_eq_false_iff_not]; intro e; exact HL.out (by rw [e])), Below.refl _ _⟩
end Go.Proofs.YtnhifinfjfpoiaaGreat

namespace Go.Proofs.YtnhifinfjfpoiaaGreat
open Go.RowKit
set_option linter.unusedVariables false

theorem check1_any (a : Option Addr) (n cap m bx : Nat) (w : World) (hn : n ≤ 140737488355328) (hc : w.cell? ⟨bx, 0, none⟩ = some (.int .i64 m)) :
    Calls Tryz.prog 80 #[.slice a n cap, .pointer (some ⟨bx, 0, none⟩)] w fun e w' => e = .returned (.bool ((n : Int) == (m : Int))) ∧ w = w' := by
  go_enter Tryz.func80, Tryz.ntmps80
  go_wp2
  go_ret
  exact ⟨rfl, rfl⟩
theorem check2_any (n : Int) (w : World) : Calls Tryz.prog 82 #[.int .i64 n] w fun e w' => e = .returned (.bool (inB n 0 60)) ∧ w = w' := by
  go_enter Tryz.func82, Tryz.ntmps82
  go_wp2_with (go_at_call 42; refine (in_any _ _ _ _).mono ?_; rintro e w' ⟨rfl, rfl⟩)
  go_ret
  exact ⟨rfl, rfl⟩
theorem check3_any (n : Int) (w : World) : Calls Tryz.prog 83 #[.int .i64 n] w fun e w' => e = .returned (.bool (inB n 0 9)) ∧ w = w' := by
  go_enter Tryz.func83, Tryz.ntmps83
  go_wp2_with (go_at_call 42; refine (in_any _ _ _ _).mono ?_; rintro e w' ⟨rfl, rfl⟩)
  go_ret
  exact ⟨rfl, rfl⟩
theorem check4_any (x y : Int) (m bx : Nat) (w : World) (hm : m ≤ 140737488355328) (hc : w.cell? ⟨bx, 0, none⟩ = some (.int .i64 m)) :
    Calls Tryz.prog 85 #[.agg #[.int .i64 x, .int .i64 y], .pointer (some ⟨bx, 0, none⟩)] w fun e w' => e = .returned (.bool (inB x 0 (m - 1) && inB y 0 (m - 1))) ∧ Below w.heap.size w w' := by
  have hB : Below w.heap.size w (w.alloc (.cells #[.int .i64 x, .int .i64 y] 48)) := (Below.refl _ _).alloc (Nat.le_refl _) _
  have hb' : (w.alloc (.cells #[.int .i64 x, .int .i64 y] 48)).cell? ⟨bx, 0, none⟩ = some (.int .i64 m) := (hB.cell (p := ⟨bx, 0, none⟩) (block_lt_of_cell hc)).trans hc
  clear hc
  cases h1 : inB x 0 (m - 1)
  all_goals
    go_enter Tryz.func85, Tryz.ntmps85
    go_wp2_with (go_at_call 42; refine (in_any _ _ _ _).mono ?_; rintro e w' ⟨rfl, rfl⟩)
    go_ret
    exact ⟨ret_bool (by simp), hB⟩

theorem check_boxes {w w1 : World} {r t u n : Value} {m : Int} (hb : Below (w.heap.size + 2) ((w.alloc (.cells #[r, t, u, n] 26)).alloc (.cells #[.int .i64 m] 3)) w1) :
    w1.cell? ⟨w.heap.size, 0, none⟩ = some r ∧ w1.cell? ⟨w.heap.size, 1, none⟩ = some t ∧ w1.cell? ⟨w.heap.size, 2, none⟩ = some u ∧ w1.cell? ⟨w.heap.size, 3, none⟩ = some n ∧ w1.cell? ⟨w.heap.size + 1, 0, none⟩ = some (.int .i64 m) := by
  refine ⟨(hb.cell (p := ⟨_, _, none⟩) (by simp)).trans ?_, (hb.cell (p := ⟨_, _, none⟩) (by simp)).trans ?_, (hb.cell (p := ⟨_, _, none⟩) (by simp)).trans ?_, (hb.cell (p := ⟨_, _, none⟩) (by simp)).trans ?_, (hb.cell (p := ⟨_, _, none⟩) (by simp)).trans ?_⟩ <;> simp [go_sem]

/-- The errors that are seen ahead of the lists. -/
theorem check_count1 (c : Col) (r t u n : Value) (w : World) (h : ColAt w w.heap.size r t u n c) (hbad : badCount1 c = true) :
    Calls Tryz.prog 24 #[.agg #[r, t, u, n]] w fun e w' => e = .returned (.int .i64 (checkC c)) ∧ Below w.heap.size w w' := by
  have e : checkC c = 3 := by unfold checkC; rw [if_pos hbad]
  rw [e]; clear e
  obtain ⟨hr, ht, hu, hn⟩ := h
  obtain ⟨ar, cr, rfl, r1, r2, _⟩ := hr.open
  obtain ⟨at_, ct, rfl, t1, t2, _⟩ := ht.open
  obtain ⟨au, cu, rfl, u1, u2, _⟩ := hu.open
  obtain ⟨an, cn, rfl, n1, n2, _⟩ := hn.open
  have hB : ∀ o o', Below w.heap.size w ((w.alloc o).alloc o') := fun o o' => ((Below.refl _ _).alloc (Nat.le_refl _) _).alloc (by simp) _
  have HB := Lib.hid hB; clear hB hr ht hu hn
  cases h1 : inB c.rooms.length 1 6
  · clear hbad
    go_enter Tryz.func24, Tryz.ntmps24
    go_wp2_with (go_at_call 42; refine (in_any _ _ _ _).mono ?_; rintro e w' ⟨rfl, rfl⟩)
    go_ret
    exact ⟨rfl, HB.out _ _⟩
  have h1' := inB_true h1
  by_cases h2 : c.traps.length = c.rooms.length
  · have h2a : c.traps.length ≤ c.rooms.length := by omega
    have h2b : c.rooms.length ≤ c.traps.length := by omega
    by_cases h3 : 12 < c.runs.length
    · clear hbad h2
      go_enter Tryz.func24, Tryz.ntmps24
      go_wp2_with (go_at_call 42; refine (in_any _ _ _ _).mono ?_; rintro e w' ⟨rfl, rfl⟩)
      go_ret
      exact ⟨rfl, HB.out _ _⟩
    · have h4 : 6 < c.nights.length := by simpa [badCount1, h1, h2, h3] using hbad
      clear hbad h2
      go_enter Tryz.func24, Tryz.ntmps24
      go_wp2_with (go_at_call 42; refine (in_any _ _ _ _).mono ?_; rintro e w' ⟨rfl, rfl⟩)
      go_ret
      exact ⟨rfl, HB.out _ _⟩
  · clear hbad
    go_enter Tryz.func24, Tryz.ntmps24
    go_wp2_with (go_at_call 42; refine (in_any _ _ _ _).mono ?_; rintro e w' ⟨rfl, rfl⟩)
    go_ret
    exact ⟨rfl, HB.out _ _⟩

theorem pcell_even (ps : List (Int × Int)) (i : Nat) : pcell ps (i * 2) = .int .i64 (nthP ps i).1 := by simp [pcell]
theorem pcell_odd (ps : List (Int × Int)) (i : Nat) : pcell ps (i * 2 + 1) = .int .i64 (nthP ps i).2 := by
  have a1 : (i * 2 + 1) % 2 = 1 := by omega
  have a2 : (i * 2 + 1) / 2 = i := by omega
  simp [pcell, a1, a2]
def pairOf (p : Int × Int) : Int × Int := (min p.1 p.2, max p.1 p.2)
theorem pairOf_iff (p q : Int × Int) : (pairOf p == pairOf q) = joinsB p q.1 q.2 := by
  obtain ⟨a, b⟩ := p
  obtain ⟨x, y⟩ := q
  rw [Bool.eq_iff_iff]
  simp [pairOf, joinsB]
  omega
def metC (c : Col) (k : Nat) (q : Int × Int) : Bool := (List.range k).any fun j => pairOf (nthP c.runs j) == q
theorem metC_succ (c : Col) (k : Nat) (q : Int × Int) : metC c (k + 1) q = (q == pairOf (nthP c.runs k) || metC c k q) := by
  unfold metC
  rw [List.range_succ, List.any_append, Bool.or_comm]
  simp [Bool.beq_comm]
theorem okTwice_eq (c : Col) (k : Nat) (h : ((nthP c.runs k).1 == (nthP c.runs k).2) = false) : okTwice c k = !metC c k (pairOf (nthP c.runs k)) := by
  unfold okTwice
  have : ((nthP c.runs k).1 != (nthP c.runs k).2) = true := by simp [bne, h]
  rw [this, Bool.true_and]
  unfold allB anyB metC
  simp only [Bool.not_not, pairOf_iff]

set_option maxHeartbeats 4000000 in
theorem check_rest (c : Col) (r t u n : Value) (w : World) (h : ColAt w w.heap.size r t u n c) (hgood : badCount1 c = false) :
    Calls Tryz.prog 24 #[.agg #[r, t, u, n]] w fun e w' => e = .returned (.int .i64 (checkC c)) ∧ Below w.heap.size w w' := by
  have E1 : checkC c = if badCount2 c then 3 else if badRooms c || badTraps c then 4 else if badNights c then 4 else if badRuns c then 2 else if badTwice c then 5 else 0 := by unfold checkC; rw [if_neg (by rw [hgood]; simp)]
  have HE := Lib.hid E1; clear E1
  obtain ⟨h1, h2, h3, h4⟩ : inB c.rooms.length 1 6 = true ∧ c.traps.length = c.rooms.length ∧ c.runs.length ≤ 12 ∧ c.nights.length ≤ 6 := by
    simpa only [badCount1, Bool.or_eq_false_iff, Bool.not_eq_false', bne_eq_false_iff_eq, decide_eq_false_iff_not, Nat.not_lt, and_assoc] using hgood
  clear hgood
  have h1' := inB_true h1
  have h2a : c.traps.length ≤ c.rooms.length := by omega
  have h2b : c.rooms.length ≤ c.traps.length := by omega
  clear h2
  obtain ⟨hr, ht, hu, hn⟩ := h
  obtain ⟨ar, cr, rfl, r1, r2, r3⟩ := hr.open
  obtain ⟨at_, ct, rfl, t1, t2, t3⟩ := ht.open
  obtain ⟨au, cu, rfl, u1, u2, u3⟩ := hu.open
  obtain ⟨an, cn, rfl, n1, n2, n3⟩ := hn.open
  have R3 := Lib.hid r3; have T3 := Lib.hid t3; have U3 := Lib.hid u3; have N3 := Lib.hid n3; clear r3 t3 u3 n3
  obtain ⟨fN, hsN, hrN⟩ := hn
  have HN := Lib.hid hsN; have HRN := Lib.hid hrN; have HR := Lib.hid hr; have HT := Lib.hid ht; have HU := Lib.hid hu
  have hBW := ((Below.refl w.heap.size w).alloc (Nat.le_refl _) (.cells #[.slice ar c.rooms.length cr, .slice at_ c.traps.length ct, .slice au c.runs.length cu, .slice an c.nights.length cn] 26)).alloc (by simp) (.cells #[.int .i64 c.rooms.length] 3)
  have HB := Lib.hid hBW
  have HC1 := Lib.hid (everyRows_any (.slice an c.nights.length cn) c.nights.length 80 #[.pointer (some ⟨w.heap.size + 1, 0, none⟩)] (okRow c) fN _ ((hsN.below hBW (Nat.le_refl _)).mono (by simp only [World.size_alloc]; omega)) (by
    refine ⟨Tryz.call80, fun i hi w' hw' hB => ?_⟩
    have hbx : w'.cell? ⟨w.heap.size + 1, 0, none⟩ = some (.int .i64 c.rooms.length) := (hw'.cell (p := ⟨w.heap.size + 1, 0, none⟩) (by simp)).trans (by simp [go_sem])
    obtain ⟨a, cap, hv, q1, q2, _⟩ := (hrN i hi).open
    show Calls _ _ (#[fN i] ++ _) _ _
    rw [hv]
    refine (check1_any a _ cap c.rooms.length (w.heap.size + 1) w' q2 hbx).mono ?_
    rintro e w'' ⟨rfl, rfl⟩
    exact ⟨ret_bool (by unfold okRow; rw [Bool.eq_iff_iff]; simp; omega), Below.refl _ _⟩))
  clear hsN hrN hr ht hu hBW
  go_enter Tryz.func24, Tryz.ntmps24
  go_wp2_with (first | (go_at_call 42; refine (in_any _ _ _ _).mono ?_; rintro e w' ⟨rfl, rfl⟩) | fail)
  refine HC1.out.mono ?_
  rintro e w1 ⟨rfl, hb1⟩
  clear HC1
  simp only [World.size_alloc] at hb1
  obtain ⟨c0, c1, c2, c3, c4⟩ := check_boxes hb1
  have HB1 := Lib.hid hb1; clear hb1
  cases g1 : allB (okRow c) c.nights.length
  · go_wp2_with fail
    go_ret
    exact ⟨ret_int (by rw [HE.out, if_pos (by unfold badCount2; rw [g1]; rfl)]), HB.out.trans (HB1.out.mono (by omega))⟩
  go_wp2_with fail
  have q1 := (everyInts_any (.slice ar c.rooms.length cr) c.rooms.length 82 #[] (fun i => inB (nth c.rooms i) 0 60) (fun j => .int .i64 (nth c.rooms j)) w1 ((HR.out.1.below (HB.out.trans (HB1.out.mono (by omega))) (Nat.le_refl _)).mono (by have := HB1.out.size; simp at this; omega)) ⟨Tryz.call82, fun i hi w' hw' hB => (check2_any _ w').mono (by rintro e w'' ⟨rfl, rfl⟩; exact ⟨rfl, Below.refl _ _⟩)⟩)
  refine q1.mono ?_
  clear q1
  rintro e w2 ⟨rfl, hb2⟩
  have hb2' := HB1.out.trans (hb2.mono (by have := HB1.out.size; simp at this; omega))
  clear c0 c1 c2 c3 c4
  obtain ⟨c0, c1, c2, c3, c4⟩ := check_boxes hb2'
  have HB2 := Lib.hid hb2'; clear hb2' hb2 HB1
  cases g2 : allB (fun i => inB (nth c.rooms i) 0 60) c.rooms.length
  · go_wp2_with fail
    go_ret
    exact ⟨ret_int (by rw [HE.out, if_neg (by unfold badCount2; rw [g1]; simp), if_pos (by unfold badRooms; rw [g2]; rfl)]), HB.out.trans (HB2.out.mono (by omega))⟩
  go_wp2_with fail
  have q2 := (everyInts_any (.slice at_ c.traps.length ct) c.traps.length 83 #[] (fun i => inB (nth c.traps i) 0 9) (fun j => .int .i64 (nth c.traps j)) w2 ((HT.out.1.below (HB.out.trans (HB2.out.mono (by omega))) (Nat.le_refl _)).mono (by have := HB2.out.size; simp at this; omega)) ⟨Tryz.call83, fun i hi w' hw' hB => (check3_any _ w').mono (by rintro e w'' ⟨rfl, rfl⟩; exact ⟨rfl, Below.refl _ _⟩)⟩)
  refine q2.mono ?_
  clear q2
  rintro e w3 ⟨rfl, hb3⟩
  have hb3' := HB2.out.trans (hb3.mono (by have := HB2.out.size; simp at this; omega))
  clear c0 c1 c2 c3 c4
  obtain ⟨c0, c1, c2, c3, c4⟩ := check_boxes hb3'
  have HB3 := Lib.hid hb3'; clear hb3' hb3 HB2
  cases g3 : allB (fun i => inB (nth c.traps i) 0 9) c.traps.length
  · go_wp2_with fail
    go_ret
    exact ⟨ret_int (by rw [HE.out, if_neg (by unfold badCount2; rw [g1]; simp), if_pos (by unfold badTraps; rw [g3]; simp)]), HB.out.trans (HB3.out.mono (by omega))⟩
  have E2 : checkC c = if badNights c then 4 else if badRuns c then 2 else if badTwice c then 5 else 0 := by
    rw [HE.out, if_neg (by unfold badCount2; rw [g1]; simp), if_neg (by unfold badRooms badTraps; rw [g2, g3]; simp)]
  have HE2 := Lib.hid E2; clear E2 HE
  have G1 := Lib.hid g1
  clear g1 g2 g3
  have hB0 : Below w.heap.size w w3 := HB.out.trans (HB3.out.mono (by omega))
  have HB0 := Lib.hid hB0; clear hB0
  go_wp2_with fail
  go_loop [57] (fun i => ∃ k : Nat, k ≤ c.nights.length ∧ i = .int .i64 k ∧ Hid (∀ j, j < k → allB (okNight c j) (nthR c.nights j).length = true)) (fun i => c.nights.length - (intOf i).toNat)
  case atStart => exact ⟨0, Nat.zero_le _, rfl, fun j hj => by omega⟩
  case round =>
    obtain ⟨k, hk, rfl, hdone⟩ := hrel
    by_cases hlt : k < c.nights.length
    · obtain ⟨b, off, u, rfl, hbl, hcell, hru⟩ := N3.out k hlt
      obtain ⟨ai, ci, rfl, i1, i2, i3⟩ := hru.open
      have hlen : (nthR c.nights k).length = c.rooms.length := by have := allB_iff.1 G1.out k hlt; simpa [okRow] using this
      have hc1 : w3.cell? ⟨b, off + k, none⟩ = some (.slice ai (nthR c.nights k).length ci) := (HB0.out.cell (p := ⟨b, off + k, none⟩) hbl).trans hcell
      have I3 := Lib.hid i3
      have hl1 : (nthR c.nights k).length ≤ c.rooms.length := by omega
      clear hcell hru i3 hlen
      go_wp2_with fail
      go_loop [63] (fun i => ∃ j : Nat, j ≤ (nthR c.nights k).length ∧ i = .int .i64 j ∧ Hid (∀ h, h < j → okNight c k h = true)) (fun i => (nthR c.nights k).length - (intOf i).toNat)
      case atStart => exact ⟨0, Nat.zero_le _, rfl, fun j hj => by omega⟩
      case round =>
        obtain ⟨j, hj, rfl, hin⟩ := hrel
        by_cases hjl : j < (nthR c.nights k).length
        · obtain ⟨b2, off2, rfl, hbl2, hcell2⟩ := I3.out j hjl
          obtain ⟨b3, off3, rfl, hbl3, hcell3⟩ := T3.out j (by omega)
          have hc2 : w3.cell? ⟨b2, off2 + j, none⟩ = some (.int .i64 (nth (nthR c.nights k) j)) := (HB0.out.cell (p := ⟨b2, off2 + j, none⟩) hbl2).trans hcell2
          have hc3 : w3.cell? ⟨b3, off3 + j, none⟩ = some (.int .i64 (nth c.traps j)) := (HB0.out.cell (p := ⟨b3, off3 + j, none⟩) hbl3).trans hcell3
          clear hcell2 hcell3
          cases hg : inB (nth (nthR c.nights k) j) 0 (nth c.traps j)
          · go_wp2_with (go_at_call 42; refine (in_any _ _ _ _).mono ?_; rintro e w' ⟨rfl, rfl⟩)
            go_ret
            exact ⟨ret_int (by rw [HE2.out, if_pos (by unfold badNights; rw [allB_false (p := fun i => allB (okNight c i) (nthR c.nights i).length) hlt (allB_false hjl hg)]; rfl)]), HB0.out⟩
          · go_wp2_with (go_at_call 42; refine (in_any _ _ _ _).mono ?_; rintro e w' ⟨rfl, rfl⟩)
            go_round
            case rel => exact ⟨j + 1, by omega, by go_num, fun h hh => by rcases Nat.lt_succ_iff_lt_or_eq.1 hh with q | q; exact hin.out h q; rw [q]; exact hg⟩
            case measure => simp [intOf]; omega
        · go_wp2_with fail
          go_round
          case rel => exact ⟨k + 1, by omega, by go_num, fun i hi => by rcases Nat.lt_succ_iff_lt_or_eq.1 hi with q | q; exact hdone.out i q; rw [q]; exact allB_true (fun h hh => hin.out h (by omega))⟩
          case measure => simp [intOf]; omega
    · have E3 : checkC c = if badRuns c then 2 else if badTwice c then 5 else 0 := by
        rw [HE2.out, if_neg (by unfold badNights; rw [allB_true (p := fun i => allB (okNight c i) (nthR c.nights i).length) (fun i hi => hdone.out i (by omega))]; simp)]
      have HE3 := Lib.hid E3; clear E3 HE2
      go_wp2_with fail
      have q3 := (everyRuns_any (.slice au c.runs.length cu) c.runs.length 85 #[.pointer (some ⟨w.heap.size + 1, 0, none⟩)] (okRun c) (pcell c.runs) w3 ((HU.out.1.below HB0.out (Nat.le_refl _)).mono HB0.out.size) (by
        refine ⟨Tryz.call85, fun i hi w' hw' hB => ?_⟩
        have hlt := block_lt_of_cell c4
        have hbx : w'.cell? ⟨w.heap.size + 1, 0, none⟩ = some (.int .i64 c.rooms.length) := (hw'.cell (p := ⟨w.heap.size + 1, 0, none⟩) hlt).trans c4
        simp only []
        rw [pcell_even, pcell_odd]
        exact check4_any _ _ c.rooms.length (w.heap.size + 1) w' r2 hbx))
      refine q3.mono ?_
      clear q3
      rintro e w4 ⟨rfl, hb4⟩
      have hb4' := HB3.out.trans (hb4.mono (by have := HB3.out.size; simp at this; omega))
      clear c0 c1 c2 c3 c4
      obtain ⟨c0, c1, c2, c3, c4⟩ := check_boxes hb4'
      have HB4 := Lib.hid hb4'; clear hb4' hb4 HB3
      cases g4 : allB (okRun c) c.runs.length
      · go_wp2_with fail
        go_ret
        exact ⟨ret_int (by rw [HE3.out, if_pos (by unfold badRuns; rw [g4]; rfl)]), HB.out.trans (HB4.out.mono (by omega))⟩
      have E4 : checkC c = if badTwice c then 5 else 0 := by rw [HE3.out, if_neg (by unfold badRuns; rw [g4]; simp)]
      have HE4 := Lib.hid E4; clear E4 HE3 g4
      have hmm := @run_makeMap Tryz.prog
      have hz4 : w.heap.size + 2 ≤ w4.heap.size := by have := HB4.out.size; simp at this; omega
      have hz4a : w.heap.size < w4.heap.size := by omega
      have hmade := RunSet.made w4
      have HM := Lib.hid hmade; clear hmade
      go_wp2_with fail
      obtain ⟨W5, hW5⟩ : ∃ W5, w4.alloc (.map #[] 0) = W5 := ⟨_, rfl⟩
      have hs5 : W5.heap.size = w4.heap.size + 1 := by rw [← hW5]; simp
      have hb5 : Below (w.heap.size + 2) w4 W5 := by rw [← hW5]; exact (Below.refl _ _).alloc hz4 _
      have HB5 := Lib.hid (HB4.out.trans hb5); clear hb5
      have HM5 : Hid (RunSet W5 w4.heap.size 0 (metC c 0)) := by rw [← hW5]; exact HM.out
      rw [hW5]
      clear hW5 HM
      have hs5' : w4.heap.size < W5.heap.size := by omega
      have HS5 := Lib.hid hs5; clear hs5
      go_loopw [87] (fun i wr => ∃ k : Nat, k ≤ c.runs.length ∧ i = .int .i64 k ∧ Hid (∀ j, j < k → okTwice c j = true) ∧ Hid (RunSet wr w4.heap.size k (metC c k)) ∧ Below (w.heap.size + 2) W5 wr ∧ w4.heap.size < wr.heap.size) (fun i _ => c.runs.length - (intOf i).toNat)
      case atStart => exact ⟨0, Nat.zero_le _, rfl, fun j hj => by omega, HM5, Below.refl _ _, hs5'⟩
      case round =>
        obtain ⟨k, hk, rfl, hdone, hset, hbr, hsz⟩ := hrel
        have HBR := Lib.hid hbr; clear hbr
        by_cases hlt : k < c.runs.length
        · obtain ⟨b, off, rfl, hbl, hcA, hcB⟩ := U3.out k hlt
          have hall := HB5.out.trans HBR.out
          have hW : Below w.heap.size w wr := HB.out.trans (hall.mono (by omega))
          have hc1 : wr.cell? ⟨b, off + k * 2, none⟩ = some (.int .i64 (nthP c.runs k).1) := (hW.cell (p := ⟨b, off + k * 2, none⟩) hbl).trans hcA
          have hc2 : wr.cell? ⟨b, off + k * 2 + 1, none⟩ = some (.int .i64 (nthP c.runs k).2) := (hW.cell (p := ⟨b, off + k * 2 + 1, none⟩) hbl).trans hcB
          have HW := Lib.hid hW
          clear hcA hcB hall hW
          have hI := HU.out.2 _ (nthP_mem hlt)
          have hI1 : I64 (min (nthP c.runs k).1 (nthP c.runs k).2) := by unfold I64 at hI ⊢; omega
          have hI2 : I64 (max (nthP c.runs k).1 (nthP c.runs k).2) := by unfold I64 at hI ⊢; omega
          have HI := Lib.hid (And.intro hI1 hI2); clear hI hI1 hI2
          have bad : okTwice c k = false → checkC c = 5 := fun h => by rw [HE4.out, if_pos (by unfold badTwice; rw [allB_false hlt h]; rfl)]
          have HBAD := Lib.hid bad; clear bad
          have box1 : (wr.alloc (.cells #[.int .i64 (nthP c.runs k).1, .int .i64 (nthP c.runs k).2] 48)).cell? ⟨wr.heap.size, 0, none⟩ = some (.int .i64 (nthP c.runs k).1) := by simp [go_sem]
          have box2 : (wr.alloc (.cells #[.int .i64 (nthP c.runs k).1, .int .i64 (nthP c.runs k).2] 48)).cell? ⟨wr.heap.size, 1, none⟩ = some (.int .i64 (nthP c.runs k).2) := by simp [go_sem]
          have hal : Below wr.heap.size wr (wr.alloc (.cells #[.int .i64 (nthP c.runs k).1, .int .i64 (nthP c.runs k).2] 48)) := (Below.refl _ _).alloc (Nat.le_refl _) _
          have HX := Lib.hid (And.intro box1 (And.intro box2 hal)); clear box1 box2 hal
          cases hd : ((nthP c.runs k).1 == (nthP c.runs k).2)
          · cases hm : metC c k (pairOf (nthP c.runs k))
            all_goals
              go_wp2_with fail
              refine (pair_any _ _ _).mono ?_
              rintro e wp ⟨rfl, hbp⟩
              simp only [World.size_alloc] at hbp
              have hx1 : wp.cell? ⟨wr.heap.size, 0, none⟩ = some (.int .i64 (nthP c.runs k).1) := (hbp.cell (p := ⟨_, _, none⟩) (by simp)).trans HX.out.1
              have hx2 : wp.cell? ⟨wr.heap.size, 1, none⟩ = some (.int .i64 (nthP c.runs k).2) := (hbp.cell (p := ⟨_, _, none⟩) (by simp)).trans HX.out.2.1
              have hbw : Below wr.heap.size wr wp := HX.out.2.2.trans (hbp.mono (by omega))
              have hset1 := hset.out.kept (hbw.mono (by omega))
              have hlk : (Instr.lookup 125 (.map (some w4.heap.size)) (.agg #[.int .i64 (min (nthP c.runs k).1 (nthP c.runs k).2), .int .i64 (max (nthP c.runs k).1 (nthP c.runs k).2)]) false).run Tryz.prog wp = .ok (.bool (metC c k (pairOf (nthP c.runs k)))) wp := hset1.look (pairOf (nthP c.runs k)) HI.out.1 HI.out.2
              have HS1 := Lib.hid hset1; have HBW := Lib.hid hbw; clear hset1 hbw hbp
              rw [hm] at hlk
            · go_wp2_with fail
              refine (pair_any _ _ _).mono ?_
              rintro e wq ⟨rfl, hbq⟩
              have hszp : w4.heap.size < wp.heap.size := Nat.lt_of_lt_of_le hsz HBW.out.size
              have hset2 := HS1.out.kept (hbq.mono (by omega))
              obtain ⟨wu, hrun, hset3, hgr⟩ := hset2.put (by unfold maxLen; omega) (pairOf (nthP c.runs k)) HI.out.1 HI.out.2
              have hrun' : (Instr.mapUpdate 125 (.map (some w4.heap.size)) (.agg #[.int .i64 (min (nthP c.runs k).1 (nthP c.runs k).2), .int .i64 (max (nthP c.runs k).1 (nthP c.runs k).2)]) (.bool true)).run Tryz.prog wq = .ok () wu := hrun
              have HS3 := Lib.hid hset3; have HGR := Lib.hid hgr; have HBQ := Lib.hid hbq
              clear hrun hset3 hgr hset2 hlk hx1 hx2 hbq
              go_wp2_with fail
              have hq : Below wr.heap.size wr wq := HBW.out.trans (HBQ.out.mono HBW.out.size)
              have hu : Below (w.heap.size + 2) W5 wu := (HBR.out.trans (hq.mono (by omega))).grown HGR.out (by have := hq.size; omega) (fun j hj => by cases hj; exact hz4)
              have hfin : RunSet wu w4.heap.size (k + 1) (metC c (k + 1)) := by
                have e : metC c (k + 1) = fun q => q == pairOf (nthP c.runs k) || metC c k q := funext fun q => metC_succ c k q
                rw [e]; exact HS3.out
              have hok : okTwice c k = true := by rw [okTwice_eq c k hd, hm]; rfl
              have hsu : w4.heap.size < wu.heap.size := by have := HGR.out.size; have := hq.size; omega
              have HF := Lib.hid (And.intro hu (And.intro hfin hok)); clear hu hfin hok hq
              go_roundw
              case rel => exact ⟨k + 1, by omega, by go_num, fun j hj => by rcases Nat.lt_succ_iff_lt_or_eq.1 hj with q | q; exact hdone.out j q; rw [q]; exact HF.out.2.2, HF.out.2.1, HF.out.1, hsu⟩
              case measure => simp [intOf]; omega
            · go_wp2_with fail
              go_ret
              exact ⟨ret_int (HBAD.out (by rw [okTwice_eq c k hd, hm]; rfl)).symm, HW.out.trans (HBW.out.mono (by have := HW.out.size; omega))⟩
          · go_wp2_with fail
            go_ret
            exact ⟨ret_int (HBAD.out (by unfold okTwice; simp [bne, hd])).symm, HW.out.trans (HX.out.2.2.mono HW.out.size)⟩
        · go_wp2_with fail
          go_ret
          exact ⟨ret_int (by rw [HE4.out, if_neg (by unfold badTwice; rw [allB_true (fun i hi => hdone.out i (by omega))]; simp)]), HB.out.trans ((HB5.out.trans HBR.out).mono (by omega))⟩

theorem check_any (c : Col) (r t u n : Value) (w : World) (h : ColAt w w.heap.size r t u n c) :
    Calls Tryz.prog 24 #[.agg #[r, t, u, n]] w fun e w' => e = .returned (.int .i64 (checkC c)) ∧ Below w.heap.size w w' := by
  cases hb : badCount1 c
  · exact check_rest c r t u n w h hb
  · exact check_count1 c r t u n w h hb
end Go.Proofs.YtnhifinfjfpoiaaGreat

namespace Go.Proofs.YtnhifinfjfpoiaaGreat
open Go.RowKit
set_option linter.unusedVariables false

theorem quiet_same {P : Program} {f : FuncId} {args : Array Value} {w : World} {n : Nat} {v : Value}
    (h : Calls P f args (w.drewN n) fun e w' => e = .returned v ∧ w.drewN n = w') : Calls P f args (w.drewN n) fun e w'' => e = .returned v ∧ ∃ m, w'' = w.drewN m :=
  h.mono fun _ _ ⟨he, hm⟩ => ⟨he, n, hm.symm⟩
theorem below_drewN {B : Nat} (w : World) (n : Nat) : Below B w (w.drewN n) := Below.drewN (Below.refl B w) n
theorem box4 {w w1 : World} {r t u n : Value} {ty : TypeId} (hb : Below (w.heap.size + 1) (w.alloc (.cells #[r, t, u, n] ty)) w1) :
    w1.cell? ⟨w.heap.size, 0, none⟩ = some r ∧ w1.cell? ⟨w.heap.size, 1, none⟩ = some t ∧ w1.cell? ⟨w.heap.size, 2, none⟩ = some u ∧ w1.cell? ⟨w.heap.size, 3, none⟩ = some n := by
  refine ⟨(hb.cell (p := ⟨_, _, none⟩) (by simp)).trans ?_, (hb.cell (p := ⟨_, _, none⟩) (by simp)).trans ?_, (hb.cell (p := ⟨_, _, none⟩) (by simp)).trans ?_, (hb.cell (p := ⟨_, _, none⟩) (by simp)).trans ?_⟩ <;> simp [go_sem]
/-- A struct of four fields in block b. -/
def Box4 (w : World) (b : Nat) (r t u n : Value) : Prop := w.cell? ⟨b, 0, none⟩ = some r ∧ w.cell? ⟨b, 1, none⟩ = some t ∧ w.cell? ⟨b, 2, none⟩ = some u ∧ w.cell? ⟨b, 3, none⟩ = some n
theorem Box4.below {w w' : World} {b B : Nat} {r t u n : Value} (h : Box4 w b r t u n) (hb : Below B w w') (hB : b < B) : Box4 w' b r t u n :=
  ⟨(hb.cell (p := ⟨b, 0, none⟩) hB).trans h.1, (hb.cell (p := ⟨b, 1, none⟩) hB).trans h.2.1, (hb.cell (p := ⟨b, 2, none⟩) hB).trans h.2.2.1, (hb.cell (p := ⟨b, 3, none⟩) hB).trans h.2.2.2⟩
theorem Box4.new (w : World) (r t u n : Value) (ty : TypeId) : Box4 (w.alloc (.cells #[r, t, u, n] ty)) w.heap.size r t u n := by
  refine ⟨?_, ?_, ?_, ?_⟩ <;> simp [go_sem]
end Go.Proofs.YtnhifinfjfpoiaaGreat

namespace Go.Proofs.YtnhifinfjfpoiaaGreat
open Go.RowKit
set_option linter.unusedVariables false

/-- The number whose bits below 6 are those of which p says yes. -/
def maskOf (p : Nat → Bool) : Nat := (if p 0 then 1 else 0) + (if p 1 then 2 else 0) + (if p 2 then 4 else 0) + (if p 3 then 8 else 0) + (if p 4 then 16 else 0) + (if p 5 then 32 else 0)
theorem maskOf_lt (p : Nat → Bool) : maskOf p < 64 := by
  unfold maskOf
  cases p 0 <;> cases p 1 <;> cases p 2 <;> cases p 3 <;> cases p 4 <;> cases p 5 <;> decide
theorem bits6 : ∀ a b c d e f : Bool, ∀ o : Fin 6,
    ((if a then 1 else 0) + (if b then 2 else 0) + (if c then 4 else 0) + (if d then 8 else 0) + (if e then 16 else 0) + (if f then 32 else 0) : Nat).testBit o.val = [a, b, c, d, e, f].getD o.val false := by decide +kernel
theorem maskOf_bit (p : Nat → Bool) (o : Nat) (h : o < 6) : (maskOf p).testBit o = p o := by
  have := bits6 (p 0) (p 1) (p 2) (p 3) (p 4) (p 5) ⟨o, h⟩
  unfold maskOf
  rw [this]
  match o, h with
  | 0, _ => rfl
  | 1, _ => rfl
  | 2, _ => rfl
  | 3, _ => rfl
  | 4, _ => rfl
  | 5, _ => rfl
theorem mask_ext {a b : Nat} (ha : a < 64) (hb : b < 64) (h : ∀ o, o < 6 → a.testBit o = b.testBit o) : a = b := by
  refine Nat.eq_of_testBit_eq fun o => ?_
  by_cases ho : o < 6
  · exact h o ho
  · have h64 : (64 : Nat) ≤ 2 ^ o := by
      have : 2 ^ 6 ≤ 2 ^ o := Nat.pow_le_pow_right (by decide) (by omega)
      exact this
    rw [Nat.testBit_lt_two_pow (by omega), Nat.testBit_lt_two_pow (by omega)]
theorem maskOf_of (m : Nat) (h : m < 64) : maskOf m.testBit = m := mask_ext (maskOf_lt _) h fun o ho => maskOf_bit _ o ho
theorem maskOf_congr {p q : Nat → Bool} (h : ∀ o, o < 6 → p o = q o) : maskOf p = maskOf q :=
  mask_ext (maskOf_lt _) (maskOf_lt _) fun o ho => by rw [maskOf_bit _ o ho, maskOf_bit _ o ho, h o ho]
theorem or_lt {a b : Nat} (ha : a < 64) (hb : b < 64) : a ||| b < 64 := Nat.or_lt_two_pow (n := 6) ha hb
theorem bits_or_fin : ∀ a b : Fin 64, bits BinOp.or IntKind.i64 (a.val : Int) (b.val : Int) = ((a.val ||| b.val : Nat) : Int) := by decide +kernel
theorem bits_or {a b : Nat} (ha : a < 64) (hb : b < 64) : bits BinOp.or IntKind.i64 (a : Int) (b : Int) = ((a ||| b : Nat) : Int) := bits_or_fin ⟨a, ha⟩ ⟨b, hb⟩
theorem bits_and_fin : ∀ a b : Fin 64, bits BinOp.and IntKind.i64 (a.val : Int) (b.val : Int) = ((a.val &&& b.val : Nat) : Int) := by decide +kernel
theorem bits_and {a b : Nat} (ha : a < 64) (hb : b < 64) : bits BinOp.and IntKind.i64 (a : Int) (b : Int) = ((a &&& b : Nat) : Int) := bits_and_fin ⟨a, ha⟩ ⟨b, hb⟩
theorem pow_lt {h : Nat} (hh : h < 6) : 2 ^ h < 64 := Nat.lt_of_lt_of_le (Nat.pow_lt_pow_right (by decide) hh) (by decide)

/-- The set of one house; the union of two sets: behind names, so that the walk's simp leaves them alone. -/
def pw (k : Nat) : Nat := 2 ^ k
def orN (a b : Nat) : Nat := a ||| b
theorem pw_lt {h : Nat} (hh : h < 6) : pw h < 64 := pow_lt hh
theorem orN_lt {a b : Nat} (ha : a < 64) (hb : b < 64) : orN a b < 64 := or_lt ha hb
theorem pw_bit (k o : Nat) : (pw k).testBit o = (k == o) := by
  unfold pw
  rw [Nat.testBit_two_pow, Bool.eq_iff_iff]
  simp
theorem orN_bit (a b o : Nat) : (orN a b).testBit o = (a.testBit o || b.testBit o) := Nat.testBit_or a b o
theorem bits_orN {a b : Nat} (ha : a < 64) (hb : b < 64) : bits BinOp.or IntKind.i64 (a : Int) (b : Int) = (orN a b : Int) := bits_or ha hb
theorem wrap_pw {k : Nat} (h : k < 6) : IntKind.i64.wrap ((2 : Int) ^ k) = (pw k : Int) := by
  match k, h with
  | 0, _ => rfl
  | 1, _ => rfl
  | 2, _ => rfl
  | 3, _ => rfl
  | 4, _ => rfl
  | 5, _ => rfl

/-- The houses to which one gets from a house in a night, as the reference says it. -/
def goesI (c : Col) (a b : Int) : Bool := anyB (fun i => joinsB (nthP c.runs i) a b) c.runs.length || a == b
def goesB (c : Col) (a b : Nat) : Bool := goesI c a b
def nearC (c : Col) (h : Nat) : Nat := if h < c.rooms.length then maskOf (goesB c h) else 0
theorem nearC_lt (c : Col) (h : Nat) : nearC c h < 64 := by unfold nearC; split; exact maskOf_lt _; decide
/-- A colony at work: a block of ten cells. -/
def DeskAt (w : World) (p : Nat) (r t u n : Value) (c : Col) : Prop :=
  Box4 w p r t u n ∧ ∀ h, h < 6 → w.cell? ⟨p, 4 + h, none⟩ = some (.int .i64 (nearC c h))
theorem DeskAt.below {w w' : World} {p B : Nat} {r t u n : Value} {c : Col} (h : DeskAt w p r t u n c) (hb : Below B w w') (hB : p < B) : DeskAt w' p r t u n c :=
  ⟨h.1.below hb hB, fun o ho => (hb.cell (p := ⟨p, 4 + o, none⟩) hB).trans (h.2 o ho)⟩
end Go.Proofs.YtnhifinfjfpoiaaGreat

namespace Go.Proofs.YtnhifinfjfpoiaaGreat
open Go.RowKit
set_option linter.unusedVariables false

theorem anyB_true {p : Nat → Bool} {n i : Nat} (h : i < n) (hp : p i = true) : anyB p n = true := by
  unfold anyB; rw [List.any_eq_true]; exact ⟨i, List.mem_range.2 h, hp⟩
theorem anyB_false {p : Nat → Bool} {n : Nat} (h : ∀ i, i < n → p i = false) : anyB p n = false := by
  unfold anyB; rw [List.any_eq_false]; intro i hi; rw [h i (List.mem_range.1 hi)]; simp
/-- Is the house there, the night? -/
def houseErr (c : Col) (h : Int) : Int := if checkC c = 0 then (if inB h 0 (c.rooms.length - 1) then 0 else 2) else checkC c
def askedErr (c : Col) (h n : Int) : Int := if checkC c = 0 then (if inB h 0 (c.rooms.length - 1) && inB n 0 (c.nights.length - 1) then 0 else 2) else checkC c
/-- Is a house full in a night? -/
def fullB (c : Col) (h n : Nat) : Bool := nth (nthR c.nights n) h == nth c.traps h
end Go.Proofs.YtnhifinfjfpoiaaGreat

namespace Go.Proofs.YtnhifinfjfpoiaaGreat
open Go.RowKit
set_option linter.unusedVariables false

def deskCells (r t u n : Value) (near : Nat → Nat) : Array Value :=
  #[r, t, u, n, .int .i64 (near 0), .int .i64 (near 1), .int .i64 (near 2), .int .i64 (near 3), .int .i64 (near 4), .int .i64 (near 5)]
theorem deskCells_set (r t u n : Value) (near : Nat → Nat) (h x : Nat) (hh : h < 6) :
    (deskCells r t u n near).setIfInBounds (4 + h) (.int .i64 x) = deskCells r t u n (fun j => if j = h then x else near j) := by
  match h, hh with
  | 0, _ => rfl
  | 1, _ => rfl
  | 2, _ => rfl
  | 3, _ => rfl
  | 4, _ => rfl
  | 5, _ => rfl
theorem deskCells_get (r t u n : Value) (near : Nat → Nat) (h : Nat) (hh : h < 6) : (deskCells r t u n near)[4 + h]? = some (.int .i64 (near h)) := by
  match h, hh with
  | 0, _ => rfl
  | 1, _ => rfl
  | 2, _ => rfl
  | 3, _ => rfl
  | 4, _ => rfl
  | 5, _ => rfl
/-- Block p is a desk, not frozen. -/
def DeskIs (w : World) (p : Nat) (r t u n : Value) (near : Nat → Nat) : Prop := w.heap[p]? = some (.cells (deskCells r t u n near) 145 (0, 0))
theorem DeskIs.box {w : World} {p : Nat} {r t u n : Value} {near : Nat → Nat} (h : DeskIs w p r t u n near) : Box4 w p r t u n :=
  ⟨cell_of_row w p 0 _ _ _ h, cell_of_row w p 1 _ _ _ h, cell_of_row w p 2 _ _ _ h, cell_of_row w p 3 _ _ _ h⟩
theorem DeskIs.near {w : World} {p : Nat} {r t u n : Value} {near : Nat → Nat} (h : DeskIs w p r t u n near) (o : Nat) (ho : o < 6) : w.cell? ⟨p, 4 + o, none⟩ = some (.int .i64 (near o)) :=
  (cell_of_row w p (4 + o) _ _ _ h).trans (deskCells_get r t u n near o ho)
theorem DeskIs.free {w : World} {p : Nat} {r t u n : Value} {near : Nat → Nat} (h : DeskIs w p r t u n near) (o : Nat) : w.frozen? ⟨p, o, none⟩ = false := frozen_of_row w p o _ _ h

/-- The houses next to a house by the first k runs. -/
def nearK (c : Col) (k h : Nat) : Nat := if h < c.rooms.length then maskOf (fun o => anyB (fun i => joinsB (nthP c.runs i) h o) k || (h : Int) == (o : Int)) else 0
theorem nearK_lt (c : Col) (k h : Nat) : nearK c k h < 64 := by unfold nearK; split; exact maskOf_lt _; decide
theorem nearK_all (c : Col) (h : Nat) : nearK c c.runs.length h = nearC c h := rfl
theorem nearK_zero (c : Col) (hc : c.rooms.length ≤ 6) (h : Nat) : nearK c 0 h = if h < c.rooms.length then pw h else 0 := by
  unfold nearK
  by_cases e : h < c.rooms.length
  · rw [if_pos e, if_pos e]
    refine mask_ext (maskOf_lt _) (pw_lt (by omega)) fun o ho => ?_
    rw [maskOf_bit _ o ho, pw_bit]
    rw [Bool.eq_iff_iff]
    simp [anyB]
    omega
  · rw [if_neg e, if_neg e]
theorem anyB_succ (p : Nat → Bool) (k : Nat) : anyB p (k + 1) = (anyB p k || p k) := by
  unfold anyB; rw [List.range_succ, List.any_append]; simp
theorem nearK_succ (c : Col) (hc : c.rooms.length ≤ 6) (k A B : Nat) (hA : (nthP c.runs k).1 = A) (hB : (nthP c.runs k).2 = B) (hAn : A < c.rooms.length) (hBn : B < c.rooms.length) (hne : A ≠ B) (h : Nat) :
    nearK c (k + 1) h = if h = B then orN (nearK c k B) (pw A) else if h = A then orN (nearK c k A) (pw B) else nearK c k h := by
  have key : ∀ o : Nat, o < 6 → joinsB (nthP c.runs k) h o = (decide (h = A) && decide (o = B) || decide (h = B) && decide (o = A)) := by
    intro o ho
    unfold joinsB
    rw [hA, hB, Bool.eq_iff_iff]
    simp
    omega
  by_cases e1 : h = B
  · subst e1
    rw [if_pos rfl]
    refine mask_ext (nearK_lt _ _ _) (orN_lt (nearK_lt _ _ _) (pw_lt (by omega))) fun o ho => ?_
    rw [orN_bit, pw_bit]
    unfold nearK
    rw [if_pos hBn, if_pos hBn, maskOf_bit _ o ho, maskOf_bit _ o ho, anyB_succ, key o ho]
    have : decide (h = A) = false := by simp; omega
    rw [this]
    rw [Bool.eq_iff_iff]
    simp
    by_cases e : o = A
    · simp [e]
    · have : ¬ A = o := fun h => e h.symm
      simp [e, this]
  · rw [if_neg e1]
    by_cases e2 : h = A
    · subst e2
      rw [if_pos rfl]
      refine mask_ext (nearK_lt _ _ _) (orN_lt (nearK_lt _ _ _) (pw_lt (by omega))) fun o ho => ?_
      rw [orN_bit, pw_bit]
      unfold nearK
      rw [if_pos hAn, if_pos hAn, maskOf_bit _ o ho, maskOf_bit _ o ho, anyB_succ, key o ho]
      have : decide (h = B) = false := by simp; omega
      rw [this]
      rw [Bool.eq_iff_iff]
      simp
      by_cases e : o = B
      · simp [e]
      · have : ¬ B = o := fun h => e h.symm
        simp [e, this]
    · rw [if_neg e2]
      refine mask_ext (nearK_lt _ _ _) (nearK_lt _ _ _) fun o ho => ?_
      unfold nearK
      by_cases e : h < c.rooms.length
      · rw [if_pos e, if_pos e, maskOf_bit _ o ho, maskOf_bit _ o ho, anyB_succ, key o ho]
        simp [e1, e2]
      · rw [if_neg e, if_neg e]

theorem opened_bad (c : Col) (r t u n : Value) (w : World) (h : ColAt w w.heap.size r t u n c) (hk : ¬ checkC c = 0) :
    Calls Tryz.prog 40 #[.agg #[r, t, u, n]] w fun e w' => e = .returned (.tuple #[.pointer none, .int .i64 (checkC c)]) ∧ Below w.heap.size w w' := by
  have hBW := (Below.refl w.heap.size w).alloc (Nat.le_refl _) (.cells #[r, t, u, n] 26)
  have HCK := Lib.hid (check_any c r t u n _ ((h.below hBW (Nat.le_refl _)).mono (by simp)))
  obtain ⟨hr, ht, hu, hn⟩ := h
  obtain ⟨ar, cr, rfl, _, _, _⟩ := hr.open
  obtain ⟨at_, ct, rfl, _, _, _⟩ := ht.open
  obtain ⟨au, cu, rfl, _, _, _⟩ := hu.open
  obtain ⟨an, cn, rfl, _, _, _⟩ := hn.open
  have HB := Lib.hid hBW
  have hk1 : (checkC c == 0) = false := by simpa using hk
  have hk2 : (checkC c != 0) = true := by simp [bne, hk1]
  clear hr ht hu hn hBW hk
  go_enter Tryz.func40, Tryz.ntmps40
  go_wp2_with fail
  refine HCK.out.mono ?_
  rintro e w1 ⟨rfl, hb1⟩
  go_wp2_with fail
  go_ret2
  exact ⟨rfl, HB.out.trans (hb1.mono (by simp))⟩

set_option maxHeartbeats 2000000 in
set_option maxRecDepth 100000 in
theorem opened_good (c : Col) (r t u n : Value) (w : World) (h : ColAt w w.heap.size r t u n c) (hk : checkC c = 0) :
    Calls Tryz.prog 40 #[.agg #[r, t, u, n]] w fun e w' => ∃ p, e = .returned (.tuple #[.pointer (some ⟨p, 0, none⟩), .int .i64 0]) ∧ Below w.heap.size w w' ∧ w.heap.size ≤ p ∧ p < w'.heap.size ∧ DeskAt w' p r t u n c := by
  have hBW := (Below.refl w.heap.size w).alloc (Nat.le_refl _) (.cells #[r, t, u, n] 26)
  have hck := check_any c r t u n _ ((h.below hBW (Nat.le_refl _)).mono (by simp))
  rw [hk] at hck
  have HCK := Lib.hid hck; clear hck
  have OK := okCol_of hk
  obtain ⟨o1, o2⟩ := OK.houses
  have orun := OK.runs
  have HOK := Lib.hid OK; clear OK
  obtain ⟨hr, ht, hu, hn⟩ := h
  obtain ⟨ar, cr, rfl, _, r2, _⟩ := hr.open
  obtain ⟨at_, ct, rfl, _, _, _⟩ := ht.open
  obtain ⟨au, cu, rfl, _, u2, u3⟩ := hu.open
  obtain ⟨an, cn, rfl, _, _, _⟩ := hn.open
  have U3 := Lib.hid u3
  have HB := Lib.hid hBW
  clear hr ht hu hn hBW hk u3
  go_enter Tryz.func40, Tryz.ntmps40
  go_wp2_with fail
  refine HCK.out.mono ?_
  rintro e w1 ⟨rfl, hb1⟩
  simp only [World.size_alloc] at hb1
  have hbx := box4 hb1
  have HBX : Hid (Box4 w1 w.heap.size (.slice ar c.rooms.length cr) (.slice at_ c.traps.length ct) (.slice au c.runs.length cu) (.slice an c.nights.length cn)) := hbx
  obtain ⟨c0, c1, c2, c3⟩ := hbx
  have hz1 : w.heap.size < w1.heap.size := by have := hb1.size; simp at this; omega
  have HB1 := Lib.hid (HB.out.trans (hb1.mono (by omega))); clear hb1
  go_wp2_with fail
  obtain ⟨W2, hW2⟩ : ∃ W2, w1.alloc (.cells #[.slice ar c.rooms.length cr, .slice at_ c.traps.length ct, .slice au c.runs.length cu, .slice an c.nights.length cn, .int .i64 0, .int .i64 0, .int .i64 0, .int .i64 0, .int .i64 0, .int .i64 0] 145) = W2 := ⟨_, rfl⟩
  have hD : DeskIs W2 w1.heap.size (.slice ar c.rooms.length cr) (.slice at_ c.traps.length ct) (.slice au c.runs.length cu) (.slice an c.nights.length cn) (fun _ => 0) := by
    rw [← hW2]; exact heap_alloc_new _ _
  have hb2 : Below w1.heap.size w1 W2 := by rw [← hW2]; exact (Below.refl _ _).alloc (Nat.le_refl _) _
  have HB2 := Lib.hid hb2; have HD := Lib.hid hD
  rw [hW2]
  clear hW2 hb2 hD c0 c1 c2 c3
  go_loopw [20] (fun i wr => ∃ k : Nat, k ≤ c.rooms.length ∧ i = .int .i64 k ∧ Hid (DeskIs wr w1.heap.size (.slice ar c.rooms.length cr) (.slice at_ c.traps.length ct) (.slice au c.runs.length cu) (.slice an c.nights.length cn) (fun j => if j < k then pw j else 0)) ∧ Below w1.heap.size w1 wr) (fun i _ => c.rooms.length - (intOf i).toNat)
  case atStart => exact ⟨0, Nat.zero_le _, rfl, HD.out, HB2.out⟩
  case round =>
    obtain ⟨k, hk, rfl, hdesk, hbr⟩ := hrel
    by_cases hlt : k < c.rooms.length
    · have hk6 : k < 6 := by omega
      have hk6i : (k : Int) < 6 := by omega
      have hwp := wrap_pw hk6
      have hfr := hdesk.out.free (4 + k)
      have hcl := hdesk.out.near k hk6
      go_wp2_with fail
      go_still_tail 7, (by kernel_rfl)
      change wpList _ _ _ _ _ wr.drew
      go_wp2_with fail
      have hd2 : DeskIs (wr.drew.setCell ⟨w1.heap.size, 4 + k, none⟩ (.int .i64 (pw k))) w1.heap.size (.slice ar c.rooms.length cr) (.slice at_ c.traps.length ct) (.slice au c.runs.length cu) (.slice an c.nights.length cn) (fun j => if j < k + 1 then pw j else 0) := by
        have := heap_setCell_same wr.drew w1.heap.size (4 + k) _ _ (.int .i64 (pw k)) hdesk.out
        unfold DeskIs
        rw [this, deskCells_set _ _ _ _ _ k (pw k) hk6]
        congr 3
        funext j
        by_cases e1 : j = k
        · subst e1; simp
        · by_cases e2 : j < k
          · simp [e1, e2, Nat.lt_succ_of_lt e2]
          · have : ¬ j < k + 1 := by omega
            simp [e1, e2, this]
      go_roundw
      case rel => exact ⟨k + 1, by omega, by go_num, hd2, (Below.drew hbr).setCell (by simp) _⟩
      case measure => simp [intOf]; omega
    · obtain ⟨c0, c1, c2, c3⟩ := HBX.out.below hbr hz1
      have hd1 : DeskIs wr w1.heap.size (.slice ar c.rooms.length cr) (.slice at_ c.traps.length ct) (.slice au c.runs.length cu) (.slice an c.nights.length cn) (nearK c 0) := by
        have e : (fun j => if j < k then pw j else 0) = nearK c 0 := funext fun j => by
          rw [nearK_zero c o2, show k = c.rooms.length from by omega]
        rw [← e]; exact hdesk.out
      have HD1 := Lib.hid hd1; have HBR := Lib.hid hbr
      clear hd1 hdesk hbr
      obtain ⟨wo, rfl⟩ : ∃ wo : World, wo = wr := ⟨_, rfl⟩
      go_wp2_with fail
      clear c0 c1 c2 c3
      go_loopw [34] (fun i wr => ∃ k : Nat, k ≤ c.runs.length ∧ i = .int .i64 k ∧ Hid (DeskIs wr w1.heap.size (.slice ar c.rooms.length cr) (.slice at_ c.traps.length ct) (.slice au c.runs.length cu) (.slice an c.nights.length cn) (nearK c k)) ∧ Below w1.heap.size w1 wr) (fun i _ => c.runs.length - (intOf i).toNat)
      case atStart => exact ⟨0, Nat.zero_le _, rfl, HD1.out, HBR.out⟩
      case round =>
        obtain ⟨k, hk, rfl, hdesk, hbr⟩ := hrel
        have HBR := Lib.hid hbr; clear hbr
        by_cases hlt : k < c.runs.length
        · obtain ⟨b, off, rfl, hbl, hcA, hcB⟩ := U3.out k hlt
          have hrun := HOK.out.run k hlt
          have hdif := HOK.out.differ k hlt
          obtain ⟨A, hA⟩ : ∃ A : Nat, (nthP c.runs k).1 = A := ⟨(nthP c.runs k).1.toNat, by omega⟩
          obtain ⟨B, hB⟩ : ∃ B : Nat, (nthP c.runs k).2 = B := ⟨(nthP c.runs k).2.toNat, by omega⟩
          have hs := nearK_succ c o2 k A B hA hB (by omega) (by omega) (by omega)
          have HS := Lib.hid hs; clear hs
          have hW : Below w.heap.size w wr := HB1.out.trans (HBR.out.mono (by omega))
          have hc1 : wr.cell? ⟨b, off + k * 2, none⟩ = some (.int .i64 A) := by rw [← hA]; exact (hW.cell (p := ⟨b, off + k * 2, none⟩) hbl).trans hcA
          have hc2 : wr.cell? ⟨b, off + k * 2 + 1, none⟩ = some (.int .i64 B) := by rw [← hB]; exact (hW.cell (p := ⟨b, off + k * 2 + 1, none⟩) hbl).trans hcB
          have hA6 : A < 6 := by omega
          have hB6 : B < 6 := by omega
          have hA6i : (A : Int) < 6 := by omega
          have hB6i : (B : Int) < 6 := by omega
          have hAB : A ≠ B := by omega
          have HAB := Lib.hid hAB
          have HW := Lib.hid hW
          clear hcA hcB hrun hdif hA hB hW hAB
          have hwA := wrap_pw hA6
          have hwB := wrap_pw hB6
          have hsz : w1.heap.size < wr.heap.size := lt_of_block hdesk.out
          have hdesk3 : DeskIs (wr.alloc (.cells #[.int .i64 A, .int .i64 B] 48)) w1.heap.size (.slice ar c.rooms.length cr) (.slice at_ c.traps.length ct) (.slice (some ⟨b, off, none⟩) c.runs.length cu) (.slice an c.nights.length cn) (nearK c k) := (((Below.refl wr.heap.size wr).alloc (Nat.le_refl _) _).block _ hsz).trans hdesk.out
          have hx1 : (wr.alloc (.cells #[.int .i64 A, .int .i64 B] 48)).cell? ⟨wr.heap.size, 0, none⟩ = some (.int .i64 A) := by simp [go_sem]
          have hx2 : (wr.alloc (.cells #[.int .i64 A, .int .i64 B] 48)).cell? ⟨wr.heap.size, 1, none⟩ = some (.int .i64 B) := by simp [go_sem]
          have hb3 : Below w1.heap.size w1 (wr.alloc (.cells #[.int .i64 A, .int .i64 B] 48)) := HBR.out.alloc (by omega) _
          have HX := Lib.hid (And.intro hdesk3 (And.intro hx1 (And.intro hx2 hb3)))
          clear hdesk3 hx1 hx2 hb3
          go_wp2_with fail
          obtain ⟨W3, hW3⟩ : ∃ W3, wr.alloc (.cells #[.int .i64 A, .int .i64 B] 48) = W3 := ⟨_, rfl⟩
          rw [hW3] at HX ⊢
          clear hW3 hc1 hc2
          obtain ⟨hd3, hx1, hx2, hb3⟩ := HX.out
          have hn1 := hd3.near A hA6
          have hf1 := hd3.free (4 + A)
          have ho1 := bits_orN (nearK_lt c k A) (pw_lt hB6)
          have hne : wr.heap.size ≠ w1.heap.size := by omega
          have hd4 : DeskIs ((W3.setCell ⟨w1.heap.size, 4 + A, none⟩ (.int .i64 (orN (nearK c k A) (pw B)))).drew) w1.heap.size (.slice ar c.rooms.length cr) (.slice at_ c.traps.length ct) (.slice (some ⟨b, off, none⟩) c.runs.length cu) (.slice an c.nights.length cn) (fun j => if j = A then orN (nearK c k A) (pw B) else nearK c k j) := by
            have := heap_setCell_same W3 w1.heap.size (4 + A) _ _ (.int .i64 (orN (nearK c k A) (pw B))) hd3
            unfold DeskIs
            rw [heap_drew, this, deskCells_set _ _ _ _ _ A _ hA6]
          have HD4 := Lib.hid hd4; clear hd4
          have hx1' : ((W3.setCell ⟨w1.heap.size, 4 + A, none⟩ (.int .i64 (orN (nearK c k A) (pw B)))).drew).cell? ⟨wr.heap.size, 0, none⟩ = some (.int .i64 A) := (World.cell?_of_block (w := W3) (heap_setCell_other W3 _ _ _ hne)).trans hx1
          have hx2' : ((W3.setCell ⟨w1.heap.size, 4 + A, none⟩ (.int .i64 (orN (nearK c k A) (pw B)))).drew).cell? ⟨wr.heap.size, 1, none⟩ = some (.int .i64 B) := (World.cell?_of_block (w := W3) (heap_setCell_other W3 _ _ _ hne)).trans hx2
          have hb4 : Below w1.heap.size w1 ((W3.setCell ⟨w1.heap.size, 4 + A, none⟩ (.int .i64 (orN (nearK c k A) (pw B)))).drew) := (hb3.setCell (by simp) _).drew
          have HX2 := Lib.hid (And.intro hx1' (And.intro hx2' hb4))
          clear hx1' hx2' hb4
          go_still_tail 14, (by kernel_rfl)
          change wpList _ _ _ _ _ W3.drew
          go_wp2_with fail
          obtain ⟨W4, hW4⟩ : ∃ W4, (W3.setCell ⟨w1.heap.size, 4 + A, none⟩ (.int .i64 (orN (nearK c k A) (pw B)))).drew = W4 := ⟨_, rfl⟩
          rw [hW4] at HD4 HX2 ⊢
          clear hW4 hd3 hx1 hx2 hb3 hn1 hf1 ho1
          obtain ⟨hx1, hx2, hb4⟩ := HX2.out
          have hn2 : W4.cell? ⟨w1.heap.size, 4 + B, none⟩ = some (.int .i64 (nearK c k B)) := by have := HD4.out.near B hB6; rw [if_neg (fun e => HAB.out e.symm)] at this; exact this
          have hf2 := HD4.out.free (4 + B)
          have ho2 := bits_orN (nearK_lt c k B) (pw_lt hA6)
          have hd5 : DeskIs ((W4.setCell ⟨w1.heap.size, 4 + B, none⟩ (.int .i64 (orN (nearK c k B) (pw A)))).drew) w1.heap.size (.slice ar c.rooms.length cr) (.slice at_ c.traps.length ct) (.slice (some ⟨b, off, none⟩) c.runs.length cu) (.slice an c.nights.length cn) (nearK c (k + 1)) := by
            have := heap_setCell_same W4 w1.heap.size (4 + B) _ _ (.int .i64 (orN (nearK c k B) (pw A))) HD4.out
            unfold DeskIs
            rw [heap_drew, this, deskCells_set _ _ _ _ _ B _ hB6]
            rw [show (fun j => if j = B then orN (nearK c k B) (pw A) else if j = A then orN (nearK c k A) (pw B) else nearK c k j) = nearK c (k + 1) from funext fun j => (HS.out j).symm]
          have hb5 : Below w1.heap.size w1 ((W4.setCell ⟨w1.heap.size, 4 + B, none⟩ (.int .i64 (orN (nearK c k B) (pw A)))).drew) := (hb4.setCell (by simp) _).drew
          have HD5 := Lib.hid (And.intro hd5 hb5); clear hd5 hb5 hb4
          go_still_tail 14, (by kernel_rfl)
          change wpList _ _ _ _ _ W4.drew
          go_wp2_with fail
          go_roundw
          case rel => exact ⟨k + 1, by omega, by go_num, HD5.out.1, HD5.out.2⟩
          case measure => simp [intOf]; omega
        · go_wp2_with fail
          go_ret2
          have e : nearK c k = nearK c c.runs.length := by rw [show k = c.runs.length from by omega]
          have hdn := hdesk.out
          rw [e] at hdn
          exact ⟨w1.heap.size, rfl, HB1.out.trans (HBR.out.mono (by omega)), by omega, lt_of_block hdesk.out, hdn.box, fun o ho => hdn.near o ho⟩
end Go.Proofs.YtnhifinfjfpoiaaGreat

namespace Go.Proofs.YtnhifinfjfpoiaaGreat
open Go.RowKit
set_option linter.unusedVariables false

/-- Block p is a right colony at work. -/
def Desk (w : World) (p : Nat) (c : Col) : Prop :=
  p < w.heap.size ∧ OkCol c ∧ ∃ r t u n, DeskAt w p r t u n c ∧ ColAt w w.heap.size r t u n c
theorem Desk.below {w w' : World} {p : Nat} {c : Col} (h : Desk w p c) (hb : Below w.heap.size w w') : Desk w' p c := by
  obtain ⟨hp, ok, r, t, u, n, hd, hc⟩ := h
  exact ⟨Nat.lt_of_lt_of_le hp hb.size, ok, r, t, u, n, hd.below hb hp, (hc.below hb (Nat.le_refl _)).mono hb.size⟩

/-- The desk opened: its fields written out. -/
theorem Desk.open {w : World} {p : Nat} {c : Col} (h : Desk w p c) :
    ∃ ar cr at_ ct au cu an cn, Box4 w p (.slice ar c.rooms.length cr) (.slice at_ c.traps.length ct) (.slice au c.runs.length cu) (.slice an c.nights.length cn) ∧
      (∀ h, h < 6 → w.cell? ⟨p, 4 + h, none⟩ = some (.int .i64 (nearC c h))) ∧ ColAt w w.heap.size (.slice ar c.rooms.length cr) (.slice at_ c.traps.length ct) (.slice au c.runs.length cu) (.slice an c.nights.length cn) c := by
  obtain ⟨hp, ok, r, t, u, n, hd, hc⟩ := h
  obtain ⟨hr, ht, hu, hn⟩ := hc
  have h1 := hr; have h2 := ht; have h3 := hu; have h4 := hn
  obtain ⟨ar, cr, rfl, _⟩ := h1.open
  obtain ⟨at_, ct, rfl, _⟩ := h2.open
  obtain ⟨au, cu, rfl, _⟩ := h3.open
  obtain ⟨an, cn, rfl, _⟩ := h4.open
  exact ⟨ar, cr, at_, ct, au, cu, an, cn, hd.1, hd.2, hr, ht, hu, hn⟩

theorem dhouse_any (c : Col) (p : Nat) (h : Int) (w : World) (hd : Desk w p c) : Calls Tryz.prog 41 #[.pointer (some ⟨p, 0, none⟩), .int .i64 h] w fun e w' => e = .returned (.bool (inB h 0 (c.rooms.length - 1))) ∧ w = w' := by
  have h6 := hd.2.1.houses
  obtain ⟨ar, cr, at_, ct, au, cu, an, cn, ⟨c0, c1, c2, c3⟩, _, _⟩ := hd.open
  clear hd
  go_enter Tryz.func41, Tryz.ntmps41
  go_wp2_with (go_at_call 42; refine (in_any _ _ _ _).mono ?_; rintro e w' ⟨rfl, rfl⟩)
  go_ret
  exact ⟨rfl, rfl⟩
theorem dnight_any (c : Col) (p : Nat) (h : Int) (w : World) (hd : Desk w p c) : Calls Tryz.prog 123 #[.pointer (some ⟨p, 0, none⟩), .int .i64 h] w fun e w' => e = .returned (.bool (inB h 0 (c.nights.length - 1))) ∧ w = w' := by
  have h6 := hd.2.1.nights
  obtain ⟨ar, cr, at_, ct, au, cu, an, cn, ⟨c0, c1, c2, c3⟩, _, _⟩ := hd.open
  clear hd
  go_enter Tryz.func123, Tryz.ntmps123
  go_wp2_with (go_at_call 42; refine (in_any _ _ _ _).mono ?_; rintro e w' ⟨rfl, rfl⟩)
  go_ret
  exact ⟨rfl, rfl⟩

theorem dfull_any (c : Col) (p h m : Nat) (w : World) (hd : Desk w p c) (hh : h < c.rooms.length) (hm : m < c.nights.length) :
    Calls Tryz.prog 88 #[.pointer (some ⟨p, 0, none⟩), .int .i64 h, .int .i64 m] w fun e w' => e = .returned (.bool (fullB c h m)) ∧ ∃ k, w' = w.drewN k := by
  have hr := hd.2.1.row m hm
  have ht := hd.2.1.traps
  obtain ⟨h61, h62⟩ := hd.2.1.houses
  have h63 := hd.2.1.nights
  obtain ⟨ar, cr, at_, ct, au, cu, an, cn, ⟨c0, c1, c2, c3⟩, _, hcol⟩ := hd.open
  obtain ⟨a', c', e, _, _, t3⟩ := hcol.2.1.open
  obtain ⟨a'', c'', e', _, _, n3⟩ := hcol.2.2.2.open
  obtain ⟨b3, off3, rfl, hbl3, hcell3⟩ := t3 h (by omega)
  obtain ⟨b, off, v, rfl, hbl, hcell, hrow⟩ := n3 m hm
  obtain ⟨ai, ci, rfl, i1, i2, i3⟩ := hrow.open
  obtain ⟨b2, off2, rfl, hbl2, hcell2⟩ := i3 h (by omega)
  simp only [Value.slice.injEq, true_and] at e e'
  obtain ⟨rfl, rfl⟩ := e
  obtain ⟨rfl, rfl⟩ := e'
  exact fullD_any h m p none none _ _ _ _ _ _ _ _ _ _ _ _ _ _ w c1 c3 hcell hcell2 hcell3 hm (by omega) (by omega) (by omega) (by omega) (by omega)

theorem opened_ok (c : Col) (r t u n : Value) (w : World) (h : ColAt w w.heap.size r t u n c) (hk : checkC c = 0) :
    Calls Tryz.prog 40 #[.agg #[r, t, u, n]] w fun e w' => ∃ p, e = .returned (.tuple #[.pointer (some ⟨p, 0, none⟩), .int .i64 0]) ∧ Below w.heap.size w w' ∧ Desk w' p c :=
  (opened_good c r t u n w h hk).mono (by
    rintro e w' ⟨p, rfl, hb, h1, h2, h3⟩
    exact ⟨p, rfl, hb, h2, okCol_of hk, r, t, u, n, h3, (h.below hb (Nat.le_refl _)).mono hb.size⟩)

theorem asked_good (c : Col) (r t u n : Value) (h m : Int) (w : World) (hc : ColAt w w.heap.size r t u n c) (hk : askedErr c h m = 0) :
    Calls Tryz.prog 87 #[.agg #[r, t, u, n], .int .i64 h, .int .i64 m] w fun e w' => ∃ p, e = .returned (.tuple #[.pointer (some ⟨p, 0, none⟩), .int .i64 0]) ∧ Below w.heap.size w w' ∧ Desk w' p c := by
  have hk0 : checkC c = 0 ∧ inB h 0 (c.rooms.length - 1) = true ∧ inB m 0 (c.nights.length - 1) = true := by
    unfold askedErr at hk
    by_cases q : checkC c = 0
    · rw [if_pos q] at hk
      cases q2 : inB h 0 (c.rooms.length - 1) <;> cases q3 : inB m 0 (c.nights.length - 1) <;> simp [q2, q3] at hk
      exact ⟨q, rfl, rfl⟩
    · rw [if_neg q] at hk; exact absurd hk q
  obtain ⟨k0, k1, k2⟩ := hk0
  have hBW := (Below.refl w.heap.size w).alloc (Nat.le_refl _) (.cells #[r, t, u, n] 26)
  have HCK := Lib.hid (opened_ok c r t u n _ ((hc.below hBW (Nat.le_refl _)).mono (by simp)) k0)
  obtain ⟨hr, htr, hu, hn⟩ := hc
  obtain ⟨ar, cr, rfl, _⟩ := hr.open
  obtain ⟨at_, ct, rfl, _⟩ := htr.open
  obtain ⟨au, cu, rfl, _⟩ := hu.open
  obtain ⟨an, cn, rfl, _⟩ := hn.open
  have HB := Lib.hid hBW
  clear hr htr hu hn hBW k0 hk
  go_enter Tryz.func87, Tryz.ntmps87
  go_wp2_with fail
  refine HCK.out.mono ?_
  rintro e w1 ⟨p, rfl, hb1, hd⟩
  have HB1 := Lib.hid hb1; have HD := Lib.hid hd; clear hb1 hd
  go_wp2_with (first | (go_at_call 41; refine (dhouse_any c p _ _ HD.out).mono ?_; rintro e w' ⟨rfl, rfl⟩) | (go_at_call 123; refine (dnight_any c p _ _ HD.out).mono ?_; rintro e w' ⟨rfl, rfl⟩))
  go_ret2
  exact ⟨p, rfl, HB.out.trans (HB1.out.mono (by simp)), HD.out⟩

theorem asked_bad (c : Col) (r t u n : Value) (h m : Int) (w : World) (hc : ColAt w w.heap.size r t u n c) (hk : ¬ askedErr c h m = 0) :
    Calls Tryz.prog 87 #[.agg #[r, t, u, n], .int .i64 h, .int .i64 m] w fun e w' => e = .returned (.tuple #[.pointer none, .int .i64 (askedErr c h m)]) ∧ Below w.heap.size w w' := by
  have hBW := (Below.refl w.heap.size w).alloc (Nat.le_refl _) (.cells #[r, t, u, n] 26)
  have hcol := ((hc.below hBW (Nat.le_refl _)).mono (B' := (w.alloc (.cells #[r, t, u, n] 26)).heap.size) (by simp))
  have HC := Lib.hid hcol; clear hcol
  obtain ⟨hr, htr, hu, hn⟩ := hc
  obtain ⟨ar, cr, rfl, _⟩ := hr.open
  obtain ⟨at_, ct, rfl, _⟩ := htr.open
  obtain ⟨au, cu, rfl, _⟩ := hu.open
  obtain ⟨an, cn, rfl, _⟩ := hn.open
  have HB := Lib.hid hBW
  clear hr htr hu hn hBW
  by_cases q : checkC c = 0
  · have HCK := Lib.hid (opened_ok c _ _ _ _ _ HC.out q)
    have e : askedErr c h m = 2 ∧ (inB h 0 (c.rooms.length - 1) = false ∨ inB h 0 (c.rooms.length - 1) = true ∧ inB m 0 (c.nights.length - 1) = false) := by
      unfold askedErr at hk ⊢
      rw [if_pos q] at hk ⊢
      cases q2 : inB h 0 (c.rooms.length - 1) <;> cases q3 : inB m 0 (c.nights.length - 1) <;> simp [q2, q3] at hk ⊢
    obtain ⟨e, hcase⟩ := e
    rw [e]
    clear hk q e HC
    rcases hcase with k1 | ⟨k1, k2⟩
    all_goals
      go_enter Tryz.func87, Tryz.ntmps87
      go_wp2_with fail
      refine HCK.out.mono ?_
      rintro e w1 ⟨p, rfl, hb1, hd⟩
      have HB1 := Lib.hid hb1; have HD := Lib.hid hd; clear hb1 hd
      go_wp2_with (first | (go_at_call 41; refine (dhouse_any c p _ _ HD.out).mono ?_; rintro e w' ⟨rfl, rfl⟩) | (go_at_call 123; refine (dnight_any c p _ _ HD.out).mono ?_; rintro e w' ⟨rfl, rfl⟩))
      go_ret2
      exact ⟨rfl, HB.out.trans (HB1.out.mono (by simp))⟩
  · have HCK := Lib.hid (opened_bad c _ _ _ _ _ HC.out q)
    have e : askedErr c h m = checkC c := by unfold askedErr; rw [if_neg q]
    rw [e]
    have hk1 : (checkC c == 0) = false := by simpa using q
    have hk2 : (checkC c != 0) = true := by simp [bne, hk1]
    clear hk q e HC
    go_enter Tryz.func87, Tryz.ntmps87
    go_wp2_with fail
    refine HCK.out.mono ?_
    rintro e w1 ⟨rfl, hb1⟩
    go_wp2_with fail
    go_ret2
    exact ⟨rfl, HB.out.trans (hb1.mono (by simp))⟩

def fullV (c : Col) (h m : Int) : Bool := if askedErr c h m = 0 then fullB c h.toNat m.toNat else false
theorem asked_in {c : Col} {h m : Int} (hk : askedErr c h m = 0) : OkCol c ∧ ∃ H M : Nat, h = H ∧ m = M ∧ H < c.rooms.length ∧ M < c.nights.length := by
  unfold askedErr at hk
  by_cases q : checkC c = 0
  · rw [if_pos q] at hk
    cases q2 : inB h 0 (c.rooms.length - 1) <;> cases q3 : inB m 0 (c.nights.length - 1) <;> simp [q2, q3] at hk
    have a := inB_true q2; have b := inB_true q3
    exact ⟨okCol_of q, h.toNat, m.toNat, by omega, by omega, by omega, by omega⟩
  · rw [if_neg q] at hk; exact absurd hk q

theorem full_any (c : Col) (r t u n : Value) (h m : Int) (w : World) (hc : ColAt w w.heap.size r t u n c) :
    Calls Tryz.prog 26 #[.agg #[r, t, u, n], .int .i64 h, .int .i64 m] w fun e w' => e = .returned (.tuple #[.bool (fullV c h m), .int .i64 (askedErr c h m)]) ∧ Below w.heap.size w w' := by
  have hBW := (Below.refl w.heap.size w).alloc (Nat.le_refl _) (.cells #[r, t, u, n] 26)
  have hcol := ((hc.below hBW (Nat.le_refl _)).mono (B' := (w.alloc (.cells #[r, t, u, n] 26)).heap.size) (by simp))
  have HC := Lib.hid hcol; clear hcol
  obtain ⟨hr, htr, hu, hn⟩ := hc
  obtain ⟨ar, cr, rfl, _⟩ := hr.open
  obtain ⟨at_, ct, rfl, _⟩ := htr.open
  obtain ⟨au, cu, rfl, _⟩ := hu.open
  obtain ⟨an, cn, rfl, _⟩ := hn.open
  have HB := Lib.hid hBW
  clear hr htr hu hn hBW
  by_cases q : askedErr c h m = 0
  · have HCK := Lib.hid (asked_good c _ _ _ _ h m _ HC.out q)
    obtain ⟨ok, H, M, rfl, rfl, hH, hM⟩ := asked_in q
    have e : fullV c H M = fullB c H M := by unfold fullV; rw [if_pos q]; rfl
    rw [e, q]
    clear q e HC ok
    go_enter Tryz.func26, Tryz.ntmps26
    go_wp2_with fail
    refine HCK.out.mono ?_
    rintro e w1 ⟨p, rfl, hb1, hd⟩
    have HB1 := Lib.hid hb1; have HD := Lib.hid hd; clear hb1 hd
    go_wp2_with (go_at_call 88; refine (dfull_any c p H M _ HD.out hH hM).mono ?_; rintro e w' ⟨rfl, k, rfl⟩)
    go_ret2
    exact ⟨rfl, (HB.out.trans (HB1.out.mono (by simp))).trans (below_drewN _ _)⟩
  · have HCK := Lib.hid (asked_bad c _ _ _ _ h m _ HC.out q)
    have e : fullV c h m = false := by unfold fullV; rw [if_neg q]
    rw [e]
    have hk1 : (askedErr c h m == 0) = false := by simpa using q
    have hk2 : (askedErr c h m != 0) = true := by simp [bne, hk1]
    clear q e HC
    go_enter Tryz.func26, Tryz.ntmps26
    go_wp2_with fail
    refine HCK.out.mono ?_
    rintro e w1 ⟨rfl, hb1⟩
    go_wp2_with fail
    go_ret2
    exact ⟨rfl, HB.out.trans (hb1.mono (by simp))⟩

end Go.Proofs.YtnhifinfjfpoiaaGreat
