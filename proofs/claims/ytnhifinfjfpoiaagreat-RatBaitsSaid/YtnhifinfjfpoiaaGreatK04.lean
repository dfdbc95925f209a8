/- Contract of desk.caught: what was caught, night by night and house by house, each number with the set of houses from which its rats can have come. What desk.share computes, in plain Lean; a stall's memory made. Contract of desk.share. Contract of desk.share, from its beginning. Contracts of rat.union, rat.sum, rat.fitting and desk.most. Contracts of rat.fitting and rat.Rats. Contract of rat.After. -/
import Derived.Test.YtnhifinfjfpoiaaGreatK02
import Derived.Test.YtnhifinfjfpoiaaGreatK03
import Derived.Laws.CopyOwn
import Derived.Laws.OwnMore
import Derived.OwnWalk
import Derived.Laws.AppendOwnNone
namespace Go.Proofs.YtnhifinfjfpoiaaGreat
open Go.RowKit
set_option linter.unusedVariables false
attribute [local go_sem] Oper.semAt_some

def pairsV (l : List (Int × Int)) : List Value := l.flatMap fun p => [.int .i64 p.1, .int .i64 p.2]
theorem pairsV_nil : pairsV [] = [] := rfl
theorem pairsV_app (l m : List (Int × Int)) : pairsV (l ++ m) = pairsV l ++ pairsV m := by simp [pairsV]
theorem pairsV_len (l : List (Int × Int)) : (pairsV l).length = l.length * 2 := by
  induction l with
  | nil => rfl
  | cons p l ih => rw [show pairsV (p :: l) = [.int .i64 p.1, .int .i64 p.2] ++ pairsV l from rfl, List.length_append, ih]; simp; omega
theorem pairsV_get : ∀ (l : List (Int × Int)) (j : Nat), j < l.length * 2 → (pairsV l)[j]? = some (pcell l j)
  | [], j, h => by simp at h
  | p :: l, 0, h => by simp [pairsV, pcell, nthP]
  | p :: l, 1, h => by simp [pairsV, pcell, nthP]
  | p :: l, j + 2, h => by
    rw [show pairsV (p :: l) = .int .i64 p.1 :: .int .i64 p.2 :: pairsV l from rfl, List.getElem?_cons_succ, List.getElem?_cons_succ, pairsV_get l j (by simp at h; omega)]
    unfold pcell
    have e1 : (j + 2) % 2 = j % 2 := by omega
    have e2 : (j + 2) / 2 = j / 2 + 1 := by omega
    rw [e1, e2]
    rfl
/-- A list of pairs of its own is a list that is read. -/
theorem pairs_of_owns {w : World} {b e : Nat} {v : Value} {l : List (Int × Int)} (h : w.ownsRow b e 2 v l.length (pairsV l)) (hl : ∀ p ∈ l, I64 p.1 ∧ I64 p.2) (hlen : l.length ≤ 140737488355328) : IsPairs w w.heap.size v l := by
  refine ⟨?_, hl⟩
  have hlt := h.lt
  obtain ⟨_, h | ⟨g, cap, cur, rfl, hg, hc, hn, hm, hs, ht⟩⟩ := h
  · obtain ⟨rfl, hn⟩ := h
    exact ⟨none, 0, by rw [hn], by omega, hlen, .inl hn⟩
  · refine ⟨some ⟨g, 0, none⟩, cap, rfl, hn, hlen, .inr ⟨g, 0, rfl, (hlt g rfl).2, fun j hj => ?_⟩⟩
    have h1 := cell_of_row w g (0 + j) _ _ _ hc
    refine h1.trans ?_
    have h2 : cur.toList[j]? = (pairsV l)[j]? := by
      rw [← ht, List.getElem?_take, if_pos hj]
    rw [Nat.zero_add, ← Array.getElem?_toList, h2, pairsV_get l j hj]

def needRow (c : Col) (n : Nat) : List (Int × Int) := (List.range c.rooms.length).map fun h => (nth (nthR c.nights n) h, (org c n h : Int))
def needsUp (c : Col) (n : Nat) : List (Int × Int) := (List.range n).flatMap (needRow c)
/-- The needs: how many were caught, and from which houses they can have come. -/
def needsC (c : Col) : List (Int × Int) := needsUp c c.nights.length
theorem needRow_len (c : Col) (n : Nat) : (needRow c n).length = c.rooms.length := by simp [needRow]
theorem needsUp_succ (c : Col) (n : Nat) : needsUp c (n + 1) = needsUp c n ++ needRow c n := by simp [needsUp, List.range_succ]
theorem needsUp_len (c : Col) (n : Nat) : (needsUp c n).length = n * c.rooms.length := by
  induction n with
  | zero => simp [needsUp]
  | succ n ih => rw [needsUp_succ, List.length_append, ih, needRow_len, Nat.succ_mul]
def rowTo (c : Col) (n j : Nat) : List (Int × Int) := (List.range j).map fun h => (nth (nthR c.nights n) h, (org c n h : Int))
theorem rowTo_succ (c : Col) (n j : Nat) : rowTo c n (j + 1) = rowTo c n j ++ [(nth (nthR c.nights n) j, (org c n j : Int))] := by simp [rowTo, List.range_succ]
theorem rowTo_len (c : Col) (n j : Nat) : (rowTo c n j).length = j := by simp [rowTo]
theorem owns_below {w w' : World} {b e sz n : Nat} {v : Value} {xs : List Value} (h : w.ownsRow b e sz v n xs) (hb : Below w.heap.size w w') : w'.ownsRow b e sz v n xs :=
  h.kept (row := none) ⟨hb.os, hb.tape, hb.output, hb.size, fun k hk _ => hb.block k hk⟩ (by
    cases hv : v.ownBlock with
    | none => exact .inl rfl
    | some k => exact .inr (by simp))
theorem below_grown {B : Nat} {w W W' : World} {row : Option Nat} (h : Below B w W) (hg : W.grownBy W' row) (hr : ∀ r, row = some r → B ≤ r) (hB : B ≤ W.heap.size) : Below B w W' :=
  h.trans ⟨hg.os, hg.tape, hg.output, hg.size, fun k hk => hg.block k (Nat.lt_of_lt_of_le hk hB) (fun e => by have := hr k e.symm; omega)⟩
/-- A block of another type is no row of one's own. -/
theorem not_own {w : World} {b e sz n k t : Nat} {v : Value} {xs : List Value} {cs : Array Value} (h : w.ownsRow b e sz v n xs) (hk : w.heap[k]? = some (.cells cs t (0, 0))) (hne : t ≠ e) : some k ≠ v.ownBlock := by
  obtain ⟨_, h | ⟨g, cap, cur, rfl, _, hg, _⟩⟩ := h
  · rw [h.1]; simp [Value.ownBlock]
  · intro e
    simp only [Value.ownBlock, Option.some.injEq] at e
    subst e
    rw [hg] at hk
    cases hk
    exact hne rfl
theorem infoNeed : (Tryz.prog.info? 142).map (fun i => (i.zero, i.size, i.bytes)) = some (some (.agg #[.int .i64 0, .int .i64 0]), 2, 16) := by kernel_rfl

set_option maxRecDepth 100000 in
set_option maxHeartbeats 2000000 in
theorem caught_any (c : Col) (p : Nat) (w : World) (hd : Desk w p c) :
    Calls Tryz.prog 95 #[.pointer (some ⟨p, 0, none⟩)] w fun e w' => ∃ v, e = .returned v ∧ w'.ownsRow w.heap.size 142 2 v (needsC c).length (pairsV (needsC c)) ∧ Below w.heap.size w w' := by
  have hplt := hd.1
  have ok := hd.2.1
  obtain ⟨o1, o2⟩ := ok.houses
  have o3 := ok.nights
  have hrow := ok.row
  have HI0 := Lib.hid (info_parts infoNeed)
  have HD := Lib.hid hd
  obtain ⟨ar, cr, at_, ct, au, cu, an, cn, ⟨c0, c1, c2, c3⟩, hnear, hcol⟩ := hd.open
  obtain ⟨a', c', e', _, _, n3⟩ := hcol.2.2.2.open
  simp only [Value.slice.injEq, true_and] at e'
  obtain ⟨rfl, rfl⟩ := e'
  have HN := Lib.hid n3; have HROW := Lib.hid hrow
  clear hd hnear hcol ok n3 hrow
  go_enter Tryz.func95, Tryz.ntmps95
  go_wp2_with fail
  go_loopw [3, 15] (fun v i wr => ∃ k : Nat, k ≤ c.nights.length ∧ i = .int .i64 k ∧ Hid (wr.ownsRow w.heap.size 142 2 v (k * c.rooms.length) (pairsV (needsUp c k))) ∧ Hid (Below w.heap.size w wr)) (fun _ i _ => c.nights.length - (intOf i).toNat)
  case atStart => exact ⟨0, Nat.zero_le _, rfl, by rw [Nat.zero_mul]; exact World.ownsRow_nil _ _ _ _, Below.refl _ _⟩
  case round =>
    obtain ⟨k, hk, rfl, hown, hB⟩ := hrel
    by_cases hlt : k < c.nights.length
    · obtain ⟨b, off, v, rfl, hbl, hcell, hrow⟩ := HN.out k hlt
      have hlen := HROW.out k hlt
      obtain ⟨ai, ci, rfl, i1, i2, i3⟩ := hrow.open
      have hcell' := (hB.out.cell (p := ⟨b, off + k, none⟩) hbl).trans hcell
      have HI3 := Lib.hid i3
      have HD1 := Lib.hid (HD.out.below hB.out)
      rw [hlen] at hcell' i1 i2
      clear i3 hrow hcell
      go_wp2_with fail
      refine (origins_any c p k _ HD1.out (by omega)).mono ?_
      rintro e w2 ⟨rfl, hb2⟩
      simp only [six]
      have hbA := hB.out.trans ((hb2.trans ((Below.refl _ w2).alloc hb2.size (.cells (six (org c k)) 129))).mono hB.out.size)
      have hs2 : SixIs (w2.alloc (.cells (six (org c k)) 129)) w2.heap.size 129 (org c k) := heap_alloc_new _ _
      have ho2 := owns_below hown.out (hb2.trans ((Below.refl _ w2).alloc hb2.size (.cells (six (org c k)) 129)))
      have hsz2 : w.heap.size ≤ w2.heap.size := Nat.le_trans hB.out.size hb2.size
      have HX := Lib.hid (And.intro hbA (And.intro hs2 ho2))
      clear hbA hs2 ho2 hown hB hb2
      unfold six at HX
      go_wp2_with fail
      go_loopw [3, 25] (fun v i wr' => ∃ j : Nat, j ≤ c.rooms.length ∧ i = .int .i64 j ∧ Hid (wr'.ownsRow w.heap.size 142 2 v (k * c.rooms.length + j) (pairsV (needsUp c k ++ rowTo c k j)) ∧ SixIs wr' w2.heap.size 129 (org c k) ∧ Below w.heap.size w wr')) (fun _ i _ => c.rooms.length - (intOf i).toNat)
      case atStart => exact ⟨0, Nat.zero_le _, rfl, by rw [Nat.add_zero, show rowTo c k 0 = [] from rfl, List.append_nil]; exact HX.out.2.2, HX.out.2.1, HX.out.1⟩
      case round =>
        obtain ⟨j, hj, rfl, hrel⟩ := hrel
        obtain ⟨i0, hi, hz0, hz1, hz2⟩ := HI0.out
        by_cases hjt : j < c.rooms.length
        · obtain ⟨hown, hsix, hB⟩ := hrel.out
          obtain ⟨b2, off2, rfl, hbl2, hcell2⟩ := HI3.out j (by omega)
          have hc2 := (hB.cell (p := ⟨b2, off2 + j, none⟩) hbl2).trans hcell2
          have hc3 := hsix.cell j (by omega)
          have hj6 : (j : Int) < 6 := by omega
          have hkk : k * c.rooms.length ≤ 36 := by
            have h1 : k * c.rooms.length ≤ 6 * c.rooms.length := Nat.mul_le_mul_right _ (by omega)
            omega
          have hB0 := hB.size
          have HR := Lib.hid (And.intro hown (And.intro hsix hB))
          clear hrel hown hsix hB hcell2
          go_wp2_with (at_builtin; refine wpList_append_own _ rfl _ _ 139 rfl w.heap.size 142 i0 (.agg #[.int .i64 0, .int .i64 0]) 2 16 Tryz.underlying139 hi hz0 hz1 hz2 rfl (by decide) _ _ _ rfl (HR.out.1.alloc _) ⟨wr.heap.size, 0, none⟩ 1 1 [.int .i64 (nth (nthR c.nights k) j), .int .i64 (org c k j : Nat)] rfl rfl (cell_two_new _ _ _ _) (fun x hx => by simp at hx; rcases hx with rfl | rfl <;> rfl) (by unfold maxLen; omega) (by omega) (by simp; omega) ?_; intro v' w1 hown' hgrow _)
          have hown := HR.out.1; have hsix := HR.out.2.1; have hB := HR.out.2.2
          have hlt2 : w2.heap.size < wr.heap.size := (Array.getElem?_eq_some_iff.1 hsix).1
          have hsixA : SixIs (wr.alloc (.cells #[.int .i64 (nth (nthR c.nights k) j), .int .i64 (org c k j : Nat)] 142)) w2.heap.size 129 (org c k) := hsix.below ((Below.refl wr.heap.size wr).alloc (Nat.le_refl _) _) hlt2
          have hne := not_own hown hsix (by decide)
          have hlt3 := hown.lt
          go_roundw
          case rel =>
            refine ⟨j + 1, by omega, by go_num, ?_, (hgrow.block _ (by simp; omega) hne).trans hsixA, below_grown (hB.alloc hB.size _) hgrow (fun r hr => (hlt3 r hr).1) (by simp; omega)⟩
            rw [rowTo_succ, ← List.append_assoc, pairsV_app, ← Nat.add_assoc]
            exact hown'
          case measure => simp [intOf]; omega
        · obtain rfl : j = c.rooms.length := by omega
          go_wp2_with fail
          go_roundw
          case rel => 
            refine ⟨k + 1, by omega, by go_num, ?_, hrel.out.2.2⟩
            rw [needsUp_succ, Nat.succ_mul]
            exact hrel.out.1
          case measure => simp [intOf]; omega
    · have hkk : k = c.nights.length := by omega
      go_wp2_with fail
      go_ret
      refine ⟨_, rfl, ?_, hB.out⟩
      have := hown.out
      rw [hkk] at this
      unfold needsC
      rw [needsUp_len]; exact this
end Go.Proofs.YtnhifinfjfpoiaaGreat

namespace Go.Proofs.YtnhifinfjfpoiaaGreat
open Go.RowKit
set_option linter.unusedVariables false

structure Sh where
  room : Nat → Int
  giv : Nat → Nat → Int
  all : Int
  short : Nat
  torn : Bool
def Sh.yes (x : Sh) (r : St) : Sh := ⟨r.room, r.giv, incW x.all, x.short, x.torn⟩
def Sh.no (x : Sh) (r : St) : Sh := ⟨r.room, r.giv, x.all, if x.torn = true then x.short else r.t, true⟩
/-- n rats of need k, one by one, until there is no room for one. -/
def shRep (nl : List (Int × Int)) (k : Nat) : Nat → Sh → Sh
  | 0, x => x
  | n + 1, x => if (putF nl k x.room x.giv).1 = true then shRep nl k n (x.yes (putF nl k x.room x.giv).2) else x.no (putF nl k x.room x.giv).2
def shNeed (nl : List (Int × Int)) (x : Sh) (k : Nat) : Sh := shRep nl k (nthP nl k).1.toNat x
def sh0 (rl : List Int) : Sh := ⟨nth rl, fun _ _ => 0, 0, 0, false⟩
def shareF (nl : List (Int × Int)) (rl : List Int) : Sh := (List.range nl.length).foldl (shNeed nl) (sh0 rl)
theorem shRep_yes {nl : List (Int × Int)} {k n : Nat} {x : Sh} (h : (putF nl k x.room x.giv).1 = true) : shRep nl k (n + 1) x = shRep nl k n (x.yes (putF nl k x.room x.giv).2) := by
  rw [shRep, if_pos h]
theorem shRep_no {nl : List (Int × Int)} {k n : Nat} {x : Sh} (h : (putF nl k x.room x.giv).1 = false) : shRep nl k (n + 1) x = x.no (putF nl k x.room x.giv).2 := by
  rw [shRep, if_neg (by rw [h]; decide)]

def zero8 (nv : Value) : List Value := [.int .i64 0, .int .i64 0, .int .i64 0, .int .i64 0, .int .i64 0, .int .i64 0, nv, .slice none 0 0]
def intsV (l : List Int) : List Value := l.map fun x => Value.int .i64 x
theorem splice_room (nv : Value) : ∀ rl : List Int, rl.length ≤ 6 → (splice (zero8 nv) 0 (intsV rl)).toArray = eight (nth rl) nv (.slice none 0 0)
  | [], _ => rfl
  | [a], _ => rfl
  | [a, b], _ => rfl
  | [a, b, c], _ => rfl
  | [a, b, c, d], _ => rfl
  | [a, b, c, d, e], _ => rfl
  | [a, b, c, d, e, f], _ => rfl
  | _ :: _ :: _ :: _ :: _ :: _ :: _ :: l, h => by simp at h
theorem eight_set7 (r : Nat → Int) (nv gv v : Value) : (eight r nv gv).setIfInBounds 7 v = eight r nv v := rfl
theorem infoSix : (Tryz.prog.info? 160).map (fun i => (i.zero, i.size, i.bytes)) = some (some (.agg #[.int .i64 0, .int .i64 0, .int .i64 0, .int .i64 0, .int .i64 0, .int .i64 0]), 6, 48) := by kernel_rfl
theorem made_get (m i : Nat) (hi : i < m) : (madeCells (Value.cells (.agg #[.int .i64 0, .int .i64 0, .int .i64 0, .int .i64 0, .int .i64 0, .int .i64 0])) m).toList[i]? = some (.int .i64 0) := by
  have key : ∀ j, j < 6 → (Value.cells (.agg #[.int .i64 0, .int .i64 0, .int .i64 0, .int .i64 0, .int .i64 0, .int .i64 0]))[j]! = Value.int .i64 0 := by
    intro j hj
    match j, hj with
    | 0, _ => rfl
    | 1, _ => rfl
    | 2, _ => rfl
    | 3, _ => rfl
    | 4, _ => rfl
    | 5, _ => rfl
  have hsz : (Value.cells (.agg #[.int .i64 0, .int .i64 0, .int .i64 0, .int .i64 0, .int .i64 0, .int .i64 0])).size = 6 := rfl
  have h1 := key (i % 6) (by omega)
  simp only [madeCells, hsz]
  simp [hi]
  exact h1
theorem giv_made {w : World} {b g n : Nat} (h : w.ownsRow b 160 6 (.slice (some ⟨g, 0, none⟩) n n) n (madeCells (Value.cells (.agg #[.int .i64 0, .int .i64 0, .int .i64 0, .int .i64 0, .int .i64 0, .int .i64 0])) (n * 6)).toList) : GivAt w g n (fun _ _ => 0) := by
  obtain ⟨hl, h | ⟨g', cap, cur, e, hb, hg, hn, hm, hs, ht⟩⟩ := h
  · cases h.1
  · cases e
    refine ⟨cur, hg, hs, fun o h ho hh => ?_⟩
    have hi : o * 6 + h < n * 6 := by have := Nat.mul_le_mul_right 6 (show o + 1 ≤ n by omega); omega
    have h1 := made_get (n * 6) (o * 6 + h) hi
    rw [← ht, List.getElem?_take, if_pos hi] at h1
    rw [← Array.getElem?_toList]; exact h1
end Go.Proofs.YtnhifinfjfpoiaaGreat

namespace Go.Proofs.YtnhifinfjfpoiaaGreat
open Go.RowKit
set_option linter.unusedVariables false
attribute [local go_sem] Oper.semAt_some

set_option maxRecDepth 100000 in
set_option maxHeartbeats 2000000 in
theorem share_rest (rl : List Int) (rv : Value) (nl : List (Int × Int)) (nv : Value) (s B0 : Nat) (w0 W : World) (hB : Below B0 w0 W) (hBs : B0 ≤ s) (hB0 : B0 ≤ w0.heap.size)
    (hs : W.heap[s]? = some (.cells (zero8 nv).toArray 163 (0, 0))) (hn : IsPairs W s nv nl) (hr : IsInts W W.heap.size rv rl) (hl6 : rl.length ≤ 6) (hnl : FrmOk nl) (hlen : nl.length ≤ 100)
    (u0 u2 u3 u4 u5 u6 u7 u8 u9 u11 u12 u13 u14 u15 u16 u17 u18 u19 u20 u21 u22 u23 u24 u25 u26 u27 u28 u29 u30 u31 u32 u33 u34 u35 u36 u37 u38 u39 u40 u41 u42 u43 u44 u45 u46 u47 u48 u49 u50 u51 u52 u53 u54 u55 u56 u57 u58 u59 u60 u61 u62 u63 u64 u65 u66 u67 u68 u69 u70 : Value)
    (R : Ending → World → Prop) (hR : ∀ g w', StallAt w' s s g nv nl (shareF nl rl).room (shareF nl rl).giv → Below B0 w0 w' → R (.returned (.tuple #[.pointer (some ⟨s, 0, none⟩), .int .i64 (shareF nl rl).all, .int .i64 ((shareF nl rl).short : Nat), .bool (shareF nl rl).torn])) w') :
    (sub [1, 1] (bodyOf Tryz.f94)).wp Tryz.prog (bodyPost Tryz.prog Tryz.f94 R) { tmps := #[u0, rv, u2, u3, u4, u5, u6, u7, u8, u9, .pointer (some ⟨s, 0, none⟩), u11, u12, u13, u14, u15, u16, u17, u18, u19, u20, u21, u22, u23, u24, u25, u26, u27, u28, u29, u30, u31, u32, u33, u34, u35, u36, u37, u38, u39, u40, u41, u42, u43, u44, u45, u46, u47, u48, u49, u50, u51, u52, u53, u54, u55, u56, u57, u58, u59, u60, u61, u62, u63, u64, u65, u66, u67, u68, u69, u70], defers := [] } W := by
  have HI0 := Lib.hid (info_parts infoSix)
  obtain ⟨ar, cr, rfl, r1, r2, r3⟩ := hr.open
  have hslt : s < W.heap.size := (Array.getElem?_eq_some_iff.1 hs).1
  have HN64 : Hid (∀ k, k < nl.length → I64 (nthP nl k).1) := fun k hk => (hn.2 _ (nthP_mem hk)).1
  have HS := Lib.hid hs; have HN := Lib.hid hn; have HB := Lib.hid hB; have HR3 := Lib.hid r3; have HNL := Lib.hid hnl; have HI64 := Lib.hid hr.2
  have HRR := Lib.hid hR
  clear hs hn hr hB r3 hnl hR
  have hpos : 0 < (intsV rl).length → ∃ ad, ar = some ad ∧ ∀ j v, (intsV rl)[j]? = some v → W.cell? (ad.add j) = some v := by
    intro hp
    have hp' : 0 < rl.length := by simpa [intsV] using hp
    obtain ⟨b, off, e, _, _⟩ := HR3.out 0 hp'
    refine ⟨⟨b, off, none⟩, e, fun j v hv => ?_⟩
    have hj : j < rl.length := by have := (List.getElem?_eq_some_iff.1 hv).1; simpa [intsV] using this
    obtain ⟨b', off', e', _, hc⟩ := HR3.out j hj
    rw [e] at e'
    cases e'
    have ha : ((⟨b, off, none⟩ : Addr).add j) = ⟨b, off + j, none⟩ := by unfold Addr.add; split <;> simp_all
    rw [ha]
    refine hc.trans ?_
    rw [← hv]
    simp [intsV, hj, nth]
  have h1 : ∀ v ∈ intsV rl, v.oneCell' = true := by intro v hv; obtain ⟨x, _, rfl⟩ := List.mem_map.1 hv; rfl
  have HP := Lib.hid (And.intro hpos h1); clear hpos h1
  conv => arg 2; whnf
  obtain ⟨an, cn, rfl, n1, n2, n3⟩ := HN.out.open
  have hkey : ∀ w1 : World, w1.heap[s]? = some (.cells (splice (zero8 (.slice an nl.length cn)) 0 (intsV rl)).toArray 163 (0, 0)) → w1.cell? ⟨s, 6, none⟩ = some (.slice an nl.length cn) := fun w1 h => by
    rw [splice_room _ rl hl6] at h
    exact (cell_of_row w1 s 6 _ _ _ h).trans rfl
  have hkey2 : ∀ w1 w2 : World, w1.heap[s]? = some (.cells (splice (zero8 (.slice an nl.length cn)) 0 (intsV rl)).toArray 163 (0, 0)) → w1.grownBy w2 none →
      w2.cell? ⟨s, 6, none⟩ = some (.slice an nl.length cn) ∧ w2.cell? ⟨s, 7, none⟩ = some (.slice none 0 0) ∧ w2.frozen? ⟨s, 7, none⟩ = false := fun w1 w2 h hg => by
    have h2 := (hg.block s (Array.getElem?_eq_some_iff.1 h).1 (by simp)).trans h
    rw [splice_room _ rl hl6] at h2
    exact ⟨(cell_of_row w2 s 6 _ _ _ h2).trans rfl, (cell_of_row w2 s 7 _ _ _ h2).trans rfl, frozen_of_row w2 s 7 _ _ h2⟩
  have HK := Lib.hid hkey
  have HK2 := Lib.hid hkey2
  obtain ⟨i0, hi, hz0, hz1, hz2⟩ := HI0.out
  clear n3 hkey hkey2
  go_wp2_with (first | (refine wpList_copy_splice (o := ⟨some 29, _, _, _, _, _⟩) rfl _ _ 22 22 rfl 3 Tryz.underlying22 (by kernel_rfl) (some ⟨s, 0, none⟩) ar 6 6 rl.length cr rfl rfl s 0 (zero8 _) 163 HS.out (intsV rl) (by simp [intsV, Nat.min_eq_left hl6]) (fun h => ⟨rfl, HP.out.1 h⟩) (by simp [intsV, zero8]; omega) HP.out.2 s W (Below.refl _ _) (Nat.le_refl _) ?_; intro w1 hs1 hb1; have c6 := HK.out w1 hs1.out) | (at_make; refine wpList_make_full _ rfl _ _ 161 rfl w1.heap.size 160 i0 _ 6 Tryz.underlying161 hi hz0 hz1 .i64 .i64 _ _ nl.length rfl rfl rfl rfl (by rw [hz2]; omega) (by unfold maxLen; omega) (Nat.le_refl _) ?_; intro w2 hown2 hgrow2; obtain ⟨d6, d7, d8⟩ := HK2.out w1 w2 hs1.out hgrow2; have HW2 := Lib.hid (And.intro hown2 hgrow2); clear hown2 hgrow2 c6))
  obtain ⟨hown2, hgrow2⟩ := HW2.out
  have hlt1 : s < w1.heap.size := (Array.getElem?_eq_some_iff.1 hs1.out).1
  have h2s : w2.heap[s]? = some (.cells (eight (nth rl) (.slice an nl.length cn) (.slice none 0 0)) 163 (0, 0)) := by
    have h := hs1.out
    rw [splice_room _ rl hl6] at h
    exact (hgrow2.block s hlt1 (by simp)).trans h
  have hb2 : Below s W w2 := below_grown hb1 hgrow2 (by simp) (by omega)
  obtain ⟨W3, hW3⟩ : ∃ W3, w2.setCell ⟨s, 7, none⟩ (.slice (some ⟨w1.heap.size, 0, none⟩) nl.length nl.length) = W3 := ⟨_, rfl⟩
  have hb3 : Below s W W3 := by rw [← hW3]; exact hb2.setCell (p := ⟨s, 7, none⟩) (Nat.le_refl _) _
  have hst : StallAt W3 s s w1.heap.size (.slice an nl.length cn) nl (nth rl) (fun _ _ => 0) := by
    refine ⟨?_, ?_, HN.out.below hb3 (Nat.le_refl _), Nat.le_trans (Nat.le_of_lt hslt) hb3.size, Nat.le_refl _, Nat.le_of_lt hlt1, Nat.ne_of_lt hlt1⟩
    · rw [← hW3, heap_setCell_same w2 s 7 _ _ _ h2s, eight_set7]
    · obtain ⟨A, g1, g2, g3⟩ := giv_made hown2
      refine ⟨A, ?_, g2, g3⟩
      rw [← hW3]
      exact (Below.heap_setCell _ _ _ _ (Nat.ne_of_gt hlt1)).trans g1
  obtain ⟨g, hg⟩ : ∃ g, w1.heap.size = g := ⟨_, rfl⟩
  rw [hg] at hst
  rw [hW3, hg]
  have HST := Lib.hid (And.intro hst hb3)
  clear hown2 hgrow2 hs1 hb1 hb2 h2s d6 d7 d8 hst hb3 hlt1 HW2 HK HK2 hW3 hg
  go_loopw [11, 12, 13, 44] (fun al sh to i wr => ∃ (k : Nat) (X : Sh), k ≤ nl.length ∧ i = .int .i64 k ∧ al = .int .i64 X.all ∧ sh = .int .i64 (X.short : Nat) ∧ to = .bool X.torn ∧ Hid (StallAt wr s s g (.slice an nl.length cn) nl X.room X.giv ∧ (List.range' k (nl.length - k)).foldl (shNeed nl) X = shareF nl rl ∧ Below s W wr)) (fun _ _ _ i _ => nl.length - (intOf i).toNat)
  case atStart => exact ⟨0, sh0 rl, Nat.zero_le _, rfl, rfl, rfl, rfl, HST.out.1, by unfold shareF; rw [List.range_eq_range']; rfl, HST.out.2⟩
  case round =>
    obtain ⟨k, X, hk, rfl, rfl, rfl, rfl, hrel⟩ := hrel
    by_cases hlt : k < nl.length
    · obtain ⟨q1, q2, q3⟩ := hrel.out
      obtain ⟨an', cn', e', _, _, n3⟩ := q1.needs.open
      cases e'
      obtain ⟨bn, offn, rfl, hbn, d1, d2⟩ := n3 k hlt
      have hki : (k : Int) < nl.length := by omega
      have hnext : (List.range' (k + 1) (nl.length - (k + 1))).foldl (shNeed nl) (shNeed nl X k) = shareF nl rl := by
        rw [← q2, show nl.length - k = (nl.length - (k + 1)) + 1 from by omega, List.range'_succ]; rfl
      have HQ := Lib.hid (And.intro q1 (And.intro hnext q3))
      clear hrel q1 q2 q3 n3 hnext
      go_wp2_with fail
      obtain ⟨Wi, hWi⟩ : ∃ Wi, wr.alloc (.cells #[.int .i64 (nthP nl k).1, .int .i64 (nthP nl k).2] 142) = Wi := ⟨_, rfl⟩
      have hbi : Below wr.heap.size wr Wi := by rw [← hWi]; exact (Below.refl _ wr).alloc (Nat.le_refl _) _
      rw [hWi]
      obtain ⟨q1, hnext, q3⟩ := HQ.out
      have HI := Lib.hid (And.intro (q1.below hbi) (And.intro hnext (q3.trans (hbi.mono q1.base))))
      clear hbi hWi q1 hnext q3 d1 d2
      obtain ⟨wo, rfl⟩ : ∃ wo : World, wo = wr := ⟨_, rfl⟩
      go_loopw [11, 12, 13, 51] (fun al sh to i wq => ∃ (j : Nat) (Y : Sh), j ≤ (nthP nl k).1.toNat ∧ i = .int .i64 j ∧ al = .int .i64 Y.all ∧ sh = .int .i64 (Y.short : Nat) ∧ to = .bool Y.torn ∧ Hid (StallAt wq s s g (.slice (some ⟨bn, offn, none⟩) nl.length cn) nl Y.room Y.giv ∧ shRep nl k ((nthP nl k).1.toNat - j) Y = shNeed nl X k ∧ Below s W wq)) (fun _ _ _ i _ => (nthP nl k).1.toNat - (intOf i).toNat)
      case atStart => exact ⟨0, X, Nat.zero_le _, rfl, rfl, rfl, rfl, HI.out.1, rfl, HI.out.2.2⟩
      case round =>
        obtain ⟨j, Y, hj, rfl, rfl, rfl, rfl, hrel⟩ := hrel
        by_cases hjt : j < (nthP nl k).1.toNat
        · have hji : (j : Int) < (nthP nl k).1 := by omega
          have hjb : (j : Int) + 1 ≤ 9223372036854775807 := by have := (HN64.out k hlt).2; omega
          obtain ⟨p1, p2, p3⟩ := hrel.out
          rw [show (nthP nl k).1.toNat - j = ((nthP nl k).1.toNat - (j + 1)) + 1 from by omega] at p2
          have HC := put_any wr s s g _ nl Y.room Y.giv k p1 HNL.out hlt
          cases hput : (putF nl k Y.room Y.giv).1
          · rw [hput] at HC
            rw [shRep_no hput] at p2
            have HCC := Lib.hid HC
            have HPP := Lib.hid (And.intro p1 (And.intro p2 p3))
            clear HC hrel p1 p2 p3 hput
            cases htorn : Y.torn
            all_goals
              go_wp2_with (go_at_call 124; refine HCC.out.mono ?_; rintro e w5 ⟨rfl, p5, k5⟩)
              have HZ : Hid (StallAt w5 s s g _ nl (shNeed nl X k).room (shNeed nl X k).giv ∧ _ ∧ Below s W w5) := ⟨by rw [← HPP.out.2.1]; exact p5, HI.out.2.1, HPP.out.2.2.trans (k5.below HPP.out.1.base (Nat.le_refl _) HPP.out.1.bg (Nat.le_refl _))⟩
              have HE := Lib.hid HPP.out.2.1
              go_roundw
              case rel =>
                refine ⟨k + 1, shNeed nl X k, by omega, by go_num, ?_, ?_, ?_, HZ.out.1, HZ.out.2.1, HZ.out.2.2⟩ <;> rw [← HE.out] <;> simp [Sh.no, htorn]
              case measure => simp [intOf]; omega
          · rw [hput] at HC
            rw [shRep_yes hput] at p2
            have HCC := Lib.hid HC
            have HPP := Lib.hid (And.intro p1 (And.intro p2 p3))
            clear HC hrel p1 p2 p3 hput
            go_wp2_with (go_at_call 124; refine HCC.out.mono ?_; rintro e w5 ⟨rfl, p5, k5⟩)
            go_roundw
            case rel =>
              refine ⟨j + 1, Y.yes (putF nl k Y.room Y.giv).2, by omega, by go_num, ?_, rfl, rfl, p5, HPP.out.2.1, HPP.out.2.2.trans (k5.below HPP.out.1.base (Nat.le_refl _) HPP.out.1.bg (Nat.le_refl _))⟩
              simp [Sh.yes, incW]
            case measure => simp [intOf]; omega
        · obtain rfl : j = (nthP nl k).1.toNat := by omega
          have hji : ¬ ((((nthP nl k).1.toNat : Nat) : Int) < (nthP nl k).1) := by omega
          obtain ⟨p1, p2, p3⟩ := hrel.out
          rw [Nat.sub_self] at p2
          have p2' : Y = shNeed nl X k := p2
          have HPP := Lib.hid (And.intro p1 (And.intro p2' p3))
          clear hrel p1 p2 p3 p2'
          go_wp2_with fail
          go_roundw
          case rel =>
            refine ⟨k + 1, Y, by omega, by go_num, rfl, rfl, rfl, HPP.out.1, ?_, HPP.out.2.2⟩
            rw [HPP.out.2.1]; exact HI.out.2.1
          case measure => simp [intOf]; omega
    · obtain rfl : k = nl.length := by omega
      obtain ⟨q1, q2, q3⟩ := hrel.out
      rw [Nat.sub_self] at q2
      have q2' : X = shareF nl rl := q2
      subst q2'
      have HQ := Lib.hid (And.intro q1 q3)
      clear hrel q1 q2 q3
      go_wp2_with fail
      refine bodyPost_ret (v := .tuple #[.pointer (some ⟨s, 0, none⟩), .int .i64 (shareF nl rl).all, .int .i64 ((shareF nl rl).short : Nat), .bool (shareF nl rl).torn]) (by simp [results, Tryz.results94, go_sem]) rfl (HRR.out g _ HQ.out.1 (HB.out.trans (HQ.out.2.mono hBs)))
end Go.Proofs.YtnhifinfjfpoiaaGreat

namespace Go.Proofs.YtnhifinfjfpoiaaGreat
open Go.RowKit
set_option linter.unusedVariables false
attribute [local go_sem] Oper.semAt_some

/-- Needs beside those that were caught: none, or one. -/
def MoreAt (w : World) (mv : Value) (more : List (Int × Int)) : Prop :=
  (mv = .slice none 0 0 ∧ more = []) ∨ ∃ b c r f, mv = .slice (some ⟨b, 0, none⟩) 1 c ∧ more = [(r, ((f : Nat) : Int))] ∧ w.cell? ⟨b, 0, none⟩ = some (.int .i64 r) ∧ w.cell? ⟨b, 1, none⟩ = some (.int .i64 f) ∧ b < w.heap.size ∧ f < 64 ∧ I64 r
theorem needsC_mem {c : Col} {p : Int × Int} (h : p ∈ needsC c) : ∃ n h, n < c.nights.length ∧ h < c.rooms.length ∧ p = (nth (nthR c.nights n) h, (org c n h : Int)) := by
  unfold needsC needsUp at h
  obtain ⟨n, hn, hp⟩ := List.mem_flatMap.1 h
  obtain ⟨j, hj, rfl⟩ := List.mem_map.1 hp
  exact ⟨n, j, List.mem_range.1 hn, List.mem_range.1 hj, rfl⟩
theorem frmOk_of {l : List (Int × Int)} (h : ∀ p ∈ l, ∃ f : Nat, p.2 = f ∧ f < 64) : FrmOk l := by
  intro k hk
  obtain ⟨f, h1, h2⟩ := h _ (nthP_mem hk)
  unfold frm
  rw [h1]
  exact ⟨by simp, by simpa using h2⟩

theorem two_cells {w w1 : World} {b : Nat} {x y : Value} (m1 : w.cell? ⟨b, 0, none⟩ = some x) (m2 : w.cell? ⟨b, 1, none⟩ = some y) (m3 : b < w.heap.size) (hb : Below w.heap.size w w1) : ∀ j u, [x, y][j]? = some u → w1.cell? ((⟨b, 0, none⟩ : Addr).add j) = some u := by
  intro j u hj
  match j, hj with
  | 0, hj => simp at hj; subst hj; simp [Addr.add]; exact (hb.cell (p := ⟨b, 0, none⟩) m3).trans m1
  | 1, hj => simp at hj; subst hj; simp [Addr.add]; exact (hb.cell (p := ⟨b, 1, none⟩) m3).trans m2
theorem owns_slice {w : World} {b e sz n : Nat} {v : Value} {xs : List Value} (h : w.ownsRow b e sz v n xs) : ∃ a cap, v = .slice a n cap := by
  obtain ⟨_, h | ⟨g, cap, cur, rfl, _⟩⟩ := h
  · exact ⟨none, 0, by rw [h.1, h.2]⟩
  · exact ⟨_, cap, rfl⟩
set_option maxRecDepth 100000 in
set_option maxHeartbeats 2000000 in
theorem share_any (c : Col) (p : Nat) (rl : List Int) (rv mv : Value) (more : List (Int × Int)) (w : World) (hd : Desk w p c) (hr : IsInts w w.heap.size rv rl) (hl6 : rl.length ≤ 6) (hm : MoreAt w mv more) :
    Calls Tryz.prog 94 #[.pointer (some ⟨p, 0, none⟩), rv, mv] w fun e w' => ∃ s g nv, e = .returned (.tuple #[.pointer (some ⟨s, 0, none⟩), .int .i64 (shareF (needsC c ++ more) rl).all, .int .i64 ((shareF (needsC c ++ more) rl).short : Nat), .bool (shareF (needsC c ++ more) rl).torn]) ∧
      StallAt w' s s g nv (needsC c ++ more) (shareF (needsC c ++ more) rl).room (shareF (needsC c ++ more) rl).giv ∧ Below w.heap.size w w' ∧ w.heap.size ≤ s := by
  have ok := hd.2.1
  obtain ⟨o1, o2⟩ := ok.houses
  have o3 := ok.nights
  have hlenC : (needsC c).length ≤ 36 := by
    unfold needsC; rw [needsUp_len]
    have h1 : c.nights.length * c.rooms.length ≤ 6 * c.rooms.length := Nat.mul_le_mul_right _ (by omega)
    omega
  have h64 : ∀ p ∈ needsC c, I64 p.1 ∧ I64 p.2 := by
    intro q hq
    obtain ⟨n, h, hn, hh, rfl⟩ := needsC_mem hq
    have h1 := org_lt c o2 n h
    refine ⟨?_, by constructor <;> simp <;> omega⟩
    obtain ⟨_, _, _, _, _, _, hcol⟩ := hd.2
    obtain ⟨f, _, h3⟩ := hcol.2.2.2
    exact (h3 n hn).2 _ (nth_mem (by rw [ok.row n hn]; exact hh))
  have hfr : FrmOk (needsC c ++ more) := frmOk_of fun q hq => by
    rcases List.mem_append.1 hq with hq | hq
    · obtain ⟨n, h, hn, hh, rfl⟩ := needsC_mem hq
      exact ⟨_, rfl, org_lt c o2 n h⟩
    · rcases hm with ⟨_, rfl⟩ | ⟨b, cc, r, f, _, rfl, _, _, _, hf, _⟩
      · cases hq
      · rw [List.mem_singleton.1 hq]; exact ⟨f, rfl, hf⟩
  have HD := Lib.hid hd; have HR := Lib.hid hr; have HFR := Lib.hid hfr; have H64 := Lib.hid h64
  obtain ⟨i0, hi, hz0, hz1, hz2⟩ := info_parts infoNeed
  clear ok hd hr hfr h64
  rcases hm with ⟨rfl, rfl⟩ | ⟨b, cc, r, f, rfl, rfl, m1, m2, m3, m4, m5⟩
  · go_enter Tryz.func94, Tryz.ntmps94
    refine wp_seq_k (fun K hK => ?_)
    have HK := Lib.hid hK; clear hK
    go_wp2_with fail
    refine HK.out _ _ ?_
    refine wp_seq_k (fun K2 hK2 => ?_)
    have HK2 := Lib.hid hK2; clear hK2
    go_wp2_with (first | (at_builtin; refine wpList_append_own_none rfl _ _ 139 rfl w.heap.size 142 i0 2 Tryz.underlying139 hi _ _ _ rfl HO.out rfl ?_) | (go_at_call 95; refine (caught_any c p w HD.out).mono ?_; rintro e w1 ⟨v, rfl, hown, hb1⟩; obtain ⟨a0, cap0, rfl⟩ := owns_slice hown; have HO := Lib.hid hown; have HB1 := Lib.hid hb1; clear hown hb1))
    have hown := HO.out; have hb1 := HB1.out
    have hA : Below w.heap.size w (w1.alloc (.cells #[.int .i64 0, .int .i64 0, .int .i64 0, .int .i64 0, .int .i64 0, .int .i64 0, .slice a0 (needsC c).length cap0, .slice none 0 0] 163)) := hb1.alloc hb1.size _
    have hA1 : Below w1.heap.size w1 (w1.alloc (.cells #[.int .i64 0, .int .i64 0, .int .i64 0, .int .i64 0, .int .i64 0, .int .i64 0, .slice a0 (needsC c).length cap0, .slice none 0 0] 163)) := (Below.refl _ _).alloc (Nat.le_refl _) _
    have hn : IsPairs w1 w1.heap.size (.slice a0 (needsC c).length cap0) (needsC c ++ []) := by rw [List.append_nil]; exact pairs_of_owns hown H64.out (by omega)
    refine HK2.out _ _ (share_rest rl rv (needsC c ++ []) (.slice a0 (needsC c).length cap0) w1.heap.size w.heap.size w _ hA hb1.size (Nat.le_refl _) (heap_alloc_new w1 _) (hn.below hA1 (Nat.le_refl _)) ((HR.out.below hA (Nat.le_refl _)).mono hA.size) hl6 HFR.out (by simp; omega) _ _ _ _ _ _ _ _ _ _ _ _ _ _ _ _ _ _ _ _ _ _ _ _ _ _ _ _ _ _ _ _ _ _ _ _ _ _ _ _ _ _ _ _ _ _ _ _ _ _ _ _ _ _ _ _ _ _ _ _ _ _ _ _ _ _ _ _ _ _ ?_)
    intro g w' h1 h2
    exact ⟨_, g, _, rfl, h1, h2, hb1.size⟩
  · go_enter Tryz.func94, Tryz.ntmps94
    refine wp_seq_k (fun K hK => ?_)
    have HK := Lib.hid hK; clear hK
    go_wp2_with fail
    refine HK.out _ _ ?_
    refine wp_seq_k (fun K2 hK2 => ?_)
    have HK2 := Lib.hid hK2; clear hK2
    go_wp2_with (first | (at_builtin; refine wpList_append_own _ rfl _ _ 139 rfl w.heap.size 142 i0 (.agg #[.int .i64 0, .int .i64 0]) 2 16 Tryz.underlying139 hi hz0 hz1 hz2 rfl (by decide) _ _ _ rfl HO.out ⟨b, 0, none⟩ 1 cc [.int .i64 r, .int .i64 (f : Nat)] rfl rfl HM.out (fun x hx => by simp at hx; rcases hx with rfl | rfl <;> rfl) (by unfold maxLen; omega) (by omega) HZ ?_; intro v' w2 hown' hgrow _; obtain ⟨a1, cap1, rfl⟩ := owns_slice hown'; have HO2 := Lib.hid (And.intro hown' hgrow); clear hown' hgrow) | (go_at_call 95; refine (caught_any c p w HD.out).mono ?_; rintro e w1 ⟨v, rfl, hown, hb1⟩; have HM := Lib.hid (two_cells m1 m2 m3 hb1); have HZ := hb1.size; have HV := Lib.hid hown.lt; obtain ⟨a0, cap0, rfl⟩ := owns_slice hown; have HO := Lib.hid hown; have HB1 := Lib.hid hb1; clear hown hb1))
    have hb1 := HB1.out
    obtain ⟨hown, hgrow⟩ := HO2.out
    have hb2 : Below w.heap.size w w2 := below_grown hb1 hgrow (fun r hr => (HV.out r hr).1) hb1.size
    have hA : Below w.heap.size w (w2.alloc (.cells #[.int .i64 0, .int .i64 0, .int .i64 0, .int .i64 0, .int .i64 0, .int .i64 0, .slice a1 ((needsC c).length + 1) cap1, .slice none 0 0] 163)) := hb2.alloc hb2.size _
    have hA1 : Below w2.heap.size w2 (w2.alloc (.cells #[.int .i64 0, .int .i64 0, .int .i64 0, .int .i64 0, .int .i64 0, .int .i64 0, .slice a1 ((needsC c).length + 1) cap1, .slice none 0 0] 163)) := (Below.refl _ _).alloc (Nat.le_refl _) _
    have hn : IsPairs w2 w2.heap.size (.slice a1 ((needsC c).length + 1) cap1) (needsC c ++ [(r, (f : Int))]) := by
      refine pairs_of_owns (b := w.heap.size) (e := 142) (by rw [List.length_append, pairsV_app]; exact hown) ?_ (by simp; omega)
      intro q hq
      rcases List.mem_append.1 hq with hq | hq
      · exact H64.out q hq
      · rw [List.mem_singleton.1 hq]; exact ⟨m5, by constructor <;> simp <;> omega⟩
    refine HK2.out _ _ (share_rest rl rv (needsC c ++ [(r, (f : Int))]) (.slice a1 ((needsC c).length + 1) cap1) w2.heap.size w.heap.size w _ hA hb2.size (Nat.le_refl _) (heap_alloc_new w2 _) (hn.below hA1 (Nat.le_refl _)) ((HR.out.below hA (Nat.le_refl _)).mono hA.size) hl6 HFR.out (by simp; omega) _ _ _ _ _ _ _ _ _ _ _ _ _ _ _ _ _ _ _ _ _ _ _ _ _ _ _ _ _ _ _ _ _ _ _ _ _ _ _ _ _ _ _ _ _ _ _ _ _ _ _ _ _ _ _ _ _ _ _ _ _ _ _ _ _ _ _ _ _ _ ?_)
    intro g w' h1 h2
    exact ⟨_, g, _, rfl, h1, h2, hb2.size⟩
end Go.Proofs.YtnhifinfjfpoiaaGreat

namespace Go.Proofs.YtnhifinfjfpoiaaGreat
open Go.RowKit
set_option linter.unusedVariables false
attribute [local go_sem] Oper.semAt_some

def unionTo (f : Nat → Nat) : Nat → Nat
  | 0 => 0
  | k + 1 => orN (unionTo f k) (f k)
/-- All houses of six sets. -/
def unionN (f : Nat → Nat) : Nat := unionTo f 6
theorem unionTo_lt {f : Nat → Nat} (h : ∀ j, j < 6 → f j < 64) : ∀ k, k ≤ 6 → unionTo f k < 64
  | 0, _ => Nat.zero_lt_succ 63
  | k + 1, hk => orN_lt (unionTo_lt h k (by omega)) (h k (by omega))
theorem leftC_lt (c : Col) (hc : c.rooms.length ≤ 6) (h : Nat) : leftC c h < 64 := by
  unfold leftC; split
  · decide
  · exact org_lt c hc _ _

set_option maxRecDepth 100000 in
theorem union_any (f : Nat → Nat) (hf : ∀ j, j < 6 → f j < 64) (w : World) : Calls Tryz.prog 92 #[.agg (six f)] w fun e w' => e = .returned (.int .i64 (unionN f : Nat)) ∧ Below w.heap.size w w' := by
  have hs : SixIs (w.alloc (.cells (six f) 129)) w.heap.size 129 f := heap_alloc_new _ _
  have hb : Below w.heap.size w (w.alloc (.cells (six f) 129)) := (Below.refl _ w).alloc (Nat.le_refl _) _
  have HX := Lib.hid (And.intro hs hb)
  obtain ⟨c0, c1, c2, c3, c4, c5⟩ := hs.cells
  clear hs hb
  unfold six at HX c0 c1 c2 c3 c4 c5
  unfold six
  go_enter Tryz.func92, Tryz.ntmps92
  go_wp2_with fail
  obtain ⟨W1, hW1⟩ : ∃ W1, (w.alloc (.cells #[.int .i64 (f 0), .int .i64 (f 1), .int .i64 (f 2), .int .i64 (f 3), .int .i64 (f 4), .int .i64 (f 5)] 129)) = W1 := ⟨_, rfl⟩
  rw [hW1] at HX ⊢
  clear hW1 c0 c1 c2 c3 c4 c5
  go_loopw [3, 7] (fun v i wr => ∃ k : Nat, k ≤ 6 ∧ i = .int .i64 k ∧ v = .int .i64 (unionTo f k : Nat) ∧ wr = W1) (fun _ i _ => 6 - (intOf i).toNat)
  case atStart => exact ⟨0, by omega, rfl, rfl, rfl⟩
  case round =>
    obtain ⟨k, hk, rfl, rfl, rfl⟩ := hrel
    by_cases hlt : k < 6
    · have hki : (k : Int) < 6 := by omega
      have hsi := six_index f k hlt
      unfold six at hsi
      have hor := bits_orN (unionTo_lt hf k (by omega)) (hf k hlt)
      go_wp2_with fail
      go_roundw
      case rel => exact ⟨k + 1, by omega, by go_num, by simp [unionTo], by simp⟩
      case measure => simp [intOf]; omega
    · obtain rfl : k = 6 := by omega
      go_wp2_with fail
      go_ret
      exact ⟨rfl, HX.out.2⟩

/-- The sum of two numbers. -/
theorem sum_two (b c : Nat) (x y : Int) (hx : I64 x) (hy : I64 y) (hxy : I64 (x + y)) (hc : 2 ≤ c) (w : World) (m1 : w.cell? ⟨b, 0, none⟩ = some (.int .i64 x)) (m2 : w.cell? ⟨b, 1, none⟩ = some (.int .i64 y)) :
    Calls Tryz.prog 97 #[.slice (some ⟨b, 0, none⟩) 2 c] w fun e w' => e = .returned (.int .i64 (x + y)) ∧ w = w' := by
  have h1 := hx.1; have h2 := hx.2; have h3 := hy.1; have h4 := hy.2; have h5 := hxy.1; have h6 := hxy.2
  go_enter Tryz.func97, Tryz.ntmps97
  go_wp2_with fail
  go_loopw [3, 8] (fun v i wr => ∃ k : Nat, k ≤ 2 ∧ i = .int .i64 k ∧ v = .int .i64 (if k = 0 then 0 else if k = 1 then x else x + y) ∧ wr = w) (fun _ i _ => 2 - (intOf i).toNat)
  case atStart => exact ⟨0, by omega, rfl, rfl, rfl⟩
  case round =>
    obtain ⟨k, hk, rfl, rfl, rfl⟩ := hrel
    match k, hk with
    | 0, _ =>
      go_wp2_with fail
      go_roundw
      case rel => exact ⟨1, by omega, rfl, by simp, by simp⟩
      case measure => simp [intOf]
    | 1, _ =>
      go_wp2_with fail
      go_roundw
      case rel => exact ⟨2, by omega, rfl, by simp, by simp⟩
      case measure => simp [intOf]
    | 2, _ =>
      go_wp2_with fail
      go_ret
      exact ⟨rfl, rfl⟩

def fitX (c : Col) : Sh := shareF (needsC c) c.rooms
/-- The error of a colony, or of its clash. -/
def fitErr (c : Col) : Int := if checkC c = 0 then (if (fitX c).torn = true then 7 else 0) else checkC c
/-- How many rats that have come from some houses can be left. -/
def mostC (c : Col) (n : Int) (f : Nat) : Int := wrap64 ((shareF (needsC c ++ [(361, (f : Int))]) c.rooms).all - n)

set_option maxRecDepth 100000 in
theorem most_any (c : Col) (p : Nat) (n : Int) (f : Nat) (hf : f < 64) (w : World) (hd : Desk w p c) :
    Calls Tryz.prog 91 #[.pointer (some ⟨p, 0, none⟩), .int .i64 n, .int .i64 f] w fun e w' => e = .returned (.int .i64 (mostC c n f)) ∧ Below w.heap.size w w' := by
  have hbA : Below w.heap.size w (w.alloc (.cells #[.int .i64 361, .int .i64 f] 142)) := (Below.refl _ w).alloc (Nat.le_refl _) _
  have hdA := hd.below hbA
  have o2 := hd.2.1.houses.2
  obtain ⟨ar, cr, at_, ct, au, cu, an, cn, ⟨c0, c1, c2, c3⟩, hnear, hcol⟩ := hd.open
  have hr := (hcol.1.below hbA (Nat.le_refl _)).mono hbA.size
  have hm : MoreAt (w.alloc (.cells #[.int .i64 361, .int .i64 f] 142)) (.slice (some ⟨w.heap.size, 0, none⟩) 1 1) [(361, (f : Int))] := .inr ⟨w.heap.size, 1, 361, f, rfl, rfl, by simp [go_sem], by simp [go_sem], by simp, hf, by constructor <;> decide⟩
  have HC := Lib.hid (share_any c p c.rooms _ _ _ _ hdA hr o2 hm)
  have HB := Lib.hid hbA
  clear hd hdA hr hm hbA hnear hcol
  go_enter Tryz.func91, Tryz.ntmps91
  go_wp2_with (go_at_call 94; refine HC.out.mono ?_; rintro e w1 ⟨s, g, nv, rfl, h1, h2, h3⟩; have H1 := Lib.hid h2; clear h1 h2)
  go_ret
  exact ⟨ret_int (by unfold mostC; simp), HB.out.trans (H1.out.mono (by simp))⟩
end Go.Proofs.YtnhifinfjfpoiaaGreat

namespace Go.Proofs.YtnhifinfjfpoiaaGreat
open Go.RowKit
set_option linter.unusedVariables false
attribute [local go_sem] Oper.semAt_some

theorem fit_parts {c : Col} (h : fitErr c = 0) : checkC c = 0 ∧ (fitX c).torn = false := by
  unfold fitErr at h
  by_cases q : checkC c = 0
  · rw [if_pos q] at h
    cases ht : (fitX c).torn
    · exact ⟨q, rfl⟩
    · rw [ht] at h; simp at h
  · rw [if_neg q] at h; exact absurd h q

theorem share_none (c : Col) (p : Nat) (rl : List Int) (rv : Value) (w : World) (hd : Desk w p c) (hr : IsInts w w.heap.size rv rl) (hl6 : rl.length ≤ 6) :
    Calls Tryz.prog 94 #[.pointer (some ⟨p, 0, none⟩), rv, .slice none 0 0] w fun e w' => ∃ s g nv, e = .returned (.tuple #[.pointer (some ⟨s, 0, none⟩), .int .i64 (shareF (needsC c) rl).all, .int .i64 ((shareF (needsC c) rl).short : Nat), .bool (shareF (needsC c) rl).torn]) ∧
      StallAt w' s s g nv (needsC c) (shareF (needsC c) rl).room (shareF (needsC c) rl).giv ∧ Below w.heap.size w w' ∧ w.heap.size ≤ s := by
  have h := share_any c p rl rv (.slice none 0 0) [] w hd hr hl6 (.inl ⟨rfl, rfl⟩)
  rw [List.append_nil] at h
  exact h

set_option maxRecDepth 100000 in
theorem fitting_ok (c : Col) (r t u n : Value) (w : World) (hc : ColAt w w.heap.size r t u n c) (hk : fitErr c = 0) :
    Calls Tryz.prog 90 #[.agg #[r, t, u, n]] w fun e w' => ∃ p, e = .returned (.tuple #[.pointer (some ⟨p, 0, none⟩), .int .i64 (fitX c).all, .int .i64 0]) ∧ Below w.heap.size w w' ∧ Desk w' p c := by
  obtain ⟨q, ht⟩ := fit_parts hk
  have hBW := (Below.refl w.heap.size w).alloc (Nat.le_refl _) (.cells #[r, t, u, n] 26)
  have hcA := (hc.below hBW (Nat.le_refl _)).mono (B' := (w.alloc (.cells #[r, t, u, n] 26)).heap.size) (by simp)
  have HCK := Lib.hid (opened_ok c r t u n _ hcA q)
  have HR := Lib.hid hcA.1
  have c0 : (w.alloc (.cells #[r, t, u, n] 26)).cell? ⟨w.heap.size, 0, none⟩ = some r := by simp [go_sem]
  have o2 := (okCol_of q).houses.2
  have HT := Lib.hid ht
  obtain ⟨hr, htr, hu, hn⟩ := hc
  obtain ⟨ar, cr, rfl, _⟩ := hr.open
  obtain ⟨at_, ct, rfl, _⟩ := htr.open
  obtain ⟨au, cu, rfl, _⟩ := hu.open
  obtain ⟨an, cn, rfl, _⟩ := hn.open
  have HB := Lib.hid hBW
  clear hr htr hu hn hBW hk q hcA ht
  go_enter Tryz.func90, Tryz.ntmps90
  go_wp2_with fail
  refine HCK.out.mono ?_
  rintro e w1 ⟨p, rfl, hb1, hd⟩
  have c0' := (hb1.cell (p := ⟨w.heap.size, 0, none⟩) (by simp)).trans c0
  have HS := Lib.hid (share_none c p c.rooms _ w1 hd ((HR.out.below hb1 (Nat.le_refl _)).mono hb1.size) o2)
  have HD := Lib.hid (And.intro hb1 hd)
  clear hb1 hd c0
  have HT2 := HT.out
  unfold fitX at HT2
  go_wp2_with (go_at_call 94; refine HS.out.mono ?_; rw [HT2]; rintro e w2 ⟨s, g, nv, rfl, h1, h2, h3⟩; have H1 := Lib.hid h2; clear h1 h2)
  go_ret3
  refine ⟨p, rfl, HB.out.trans ((HD.out.1.mono (by simp)).trans (H1.out.mono ?_)), HD.out.2.below H1.out⟩
  exact Nat.le_trans (by simp) HD.out.1.size

set_option maxRecDepth 100000 in
theorem fitting_bad (c : Col) (r t u n : Value) (w : World) (hc : ColAt w w.heap.size r t u n c) (hk : ¬ fitErr c = 0) :
    Calls Tryz.prog 90 #[.agg #[r, t, u, n]] w fun e w' => e = .returned (.tuple #[.pointer none, .int .i64 0, .int .i64 (fitErr c)]) ∧ Below w.heap.size w w' := by
  have hBW := (Below.refl w.heap.size w).alloc (Nat.le_refl _) (.cells #[r, t, u, n] 26)
  have hcA := (hc.below hBW (Nat.le_refl _)).mono (B' := (w.alloc (.cells #[r, t, u, n] 26)).heap.size) (by simp)
  have c0 : (w.alloc (.cells #[r, t, u, n] 26)).cell? ⟨w.heap.size, 0, none⟩ = some r := by simp [go_sem]
  have HR := Lib.hid hcA.1
  have HC := Lib.hid hcA
  obtain ⟨hr, htr, hu, hn⟩ := hc
  obtain ⟨ar, cr, rfl, _⟩ := hr.open
  obtain ⟨at_, ct, rfl, _⟩ := htr.open
  obtain ⟨au, cu, rfl, _⟩ := hu.open
  obtain ⟨an, cn, rfl, _⟩ := hn.open
  have HB := Lib.hid hBW
  clear hr htr hu hn hBW hcA
  by_cases q : checkC c = 0
  · have HCK := Lib.hid (opened_ok c _ _ _ _ _ HC.out q)
    have o2 := (okCol_of q).houses.2
    have ht : (fitX c).torn = true ∧ fitErr c = 7 := by
      unfold fitErr at hk ⊢
      rw [if_pos q] at hk ⊢
      cases ht : (fitX c).torn
      · rw [ht] at hk; simp at hk
      · simp
    rw [ht.2]
    have HT2 := ht.1
    unfold fitX at HT2
    clear HC hk q ht
    go_enter Tryz.func90, Tryz.ntmps90
    go_wp2_with fail
    refine HCK.out.mono ?_
    rintro e w1 ⟨p, rfl, hb1, hd⟩
    have c0' := (hb1.cell (p := ⟨w.heap.size, 0, none⟩) (by simp)).trans c0
    have HS := Lib.hid (share_none c p c.rooms _ w1 hd ((HR.out.below hb1 (Nat.le_refl _)).mono hb1.size) o2)
    have HD := Lib.hid (And.intro hb1 hd)
    clear hb1 hd c0
    go_wp2_with (go_at_call 94; refine HS.out.mono ?_; rw [HT2]; rintro e w2 ⟨s, g, nv, rfl, h1, h2, h3⟩; have H1 := Lib.hid h2; clear h1 h2)
    go_ret3
    refine ⟨rfl, HB.out.trans ((HD.out.1.mono (by simp)).trans (H1.out.mono ?_))⟩
    exact Nat.le_trans (by simp) HD.out.1.size
  · have HCK := Lib.hid (opened_bad c _ _ _ _ _ HC.out q)
    have e : fitErr c = checkC c := by unfold fitErr; rw [if_neg q]
    rw [e]
    have hk1 : (checkC c == 0) = false := by simpa using q
    have hk2 : (checkC c != 0) = true := by simp [bne, hk1]
    clear hk q e HC c0
    go_enter Tryz.func90, Tryz.ntmps90
    go_wp2_with fail
    refine HCK.out.mono ?_
    rintro e w1 ⟨rfl, hb1⟩
    go_wp2_with fail
    go_ret3
    exact ⟨rfl, HB.out.trans (hb1.mono (by simp))⟩

/-- How many rats there were: at least, at most. -/
def ratsC (c : Col) : Int × Int := ((fitX c).all, wrap64 ((fitX c).all + mostC c (fitX c).all (unionN (leftC c))))

set_option maxRecDepth 100000 in
theorem Rats_ok (c : Col) (r t u n : Value) (w : World) (hc : ColAt w w.heap.size r t u n c) (hk : fitErr c = 0) :
    Calls Tryz.prog 28 #[.agg #[r, t, u, n]] w fun e w' => e = .returned (.tuple #[.agg #[.int .i64 (ratsC c).1, .int .i64 (ratsC c).2], .int .i64 0]) ∧ Below w.heap.size w w' := by
  have o2 := (okCol_of (fit_parts hk).1).houses.2
  have hBW : Below w.heap.size w ((w.alloc (.cells #[r, t, u, n] 26)).alloc (.cells #[.int .i64 0, .int .i64 0] 59)) := ((Below.refl w.heap.size w).alloc (Nat.le_refl _) _).alloc (by simp) _
  have hcA := (hc.below hBW (Nat.le_refl _)).mono (B' := ((w.alloc (.cells #[r, t, u, n] 26)).alloc (.cells #[.int .i64 0, .int .i64 0] 59)).heap.size) (by simp; omega)
  have HCK := Lib.hid (fitting_ok c r t u n _ hcA hk)
  have hs : ((w.alloc (.cells #[r, t, u, n] 26)).alloc (.cells #[.int .i64 0, .int .i64 0] 59)).heap[w.heap.size + 1]? = some (.cells #[.int .i64 0, .int .i64 0] 59 (0, 0)) := by
    have := heap_alloc_new (w.alloc (.cells #[r, t, u, n] 26)) (.cells #[.int .i64 0, .int .i64 0] 59)
    rw [World.size_alloc] at this
    exact this
  obtain ⟨hr, htr, hu, hn⟩ := hc
  obtain ⟨ar, cr, rfl, _⟩ := hr.open
  obtain ⟨at_, ct, rfl, _⟩ := htr.open
  obtain ⟨au, cu, rfl, _⟩ := hu.open
  obtain ⟨an, cn, rfl, _⟩ := hn.open
  have HB := Lib.hid hBW
  have HS := Lib.hid hs
  clear hr htr hu hn hBW hk hcA hs
  go_enter Tryz.func28, Tryz.ntmps28
  go_wp2_with fail
  refine HCK.out.mono ?_
  rintro e w1 ⟨p, rfl, hb1, hd⟩
  have hs1 := (hb1.block (w.heap.size + 1) (by simp)).trans HS.out
  have HD := Lib.hid (And.intro hb1 (And.intro hd hs1))
  have hkey : ∀ W : World, Below w1.heap.size w1 W → W.cell? ⟨w.heap.size + 1, 0, none⟩ = some (.int .i64 0) ∧ W.cell? ⟨w.heap.size + 1, 1, none⟩ = some (.int .i64 0) ∧ W.frozen? ⟨w.heap.size + 1, 0, none⟩ = false ∧ W.frozen? ⟨w.heap.size + 1, 1, none⟩ = false := fun W hW => by
    have h := (hW.block (w.heap.size + 1) (Nat.lt_of_lt_of_le (by simp) hb1.size)).trans hs1
    exact ⟨(cell_of_row W _ 0 _ _ _ h).trans rfl, (cell_of_row W _ 1 _ _ _ h).trans rfl, frozen_of_row W _ 0 _ _ h, frozen_of_row W _ 1 _ _ h⟩
  have HK := Lib.hid hkey
  clear hb1 hd hs1 hkey
  go_wp2_with (first | (go_at_call 93; refine (left_any c p _ HD.out.2.1).mono ?_; rintro e w2 ⟨rfl, hb2⟩; have H2 := Lib.hid hb2; clear hb2) | (go_at_call 92; refine (union_any (leftC c) (fun j _ => leftC_lt c o2 j) _).mono ?_; rintro e w3 ⟨rfl, hb3⟩; have H3 := Lib.hid (H2.out.trans (hb3.mono H2.out.size)); clear hb3) | (go_at_call 91; refine (most_any c p _ _ (unionTo_lt (fun j _ => leftC_lt c o2 j) 6 (by omega)) _ (HD.out.2.1.below H3.out)).mono ?_; rintro e w4 ⟨rfl, hb4⟩; have H4 := Lib.hid (H3.out.trans (hb4.mono H3.out.size)); clear hb4; obtain ⟨k0, k1, k2, k3⟩ := HK.out _ H4.out))
  refine bodyPost_ret (v := .tuple #[.agg #[.int .i64 (ratsC c).1, .int .i64 (ratsC c).2], .int .i64 0]) (by simp [results, Tryz.results28, go_sem, k0, k1, ratsC, unionN]) rfl ⟨rfl, ?_⟩
  have h1 := HB.out.trans (HD.out.1.mono (by simp; omega))
  have h2 := h1.trans (H4.out.mono h1.size)
  exact (h2.setCell (p := ⟨w.heap.size + 1, 0, none⟩) (Nat.le_succ _) _).setCell (p := ⟨w.heap.size + 1, 1, none⟩) (Nat.le_succ _) _
theorem Rats_bad (c : Col) (r t u n : Value) (w : World) (hc : ColAt w w.heap.size r t u n c) (hk : ¬ fitErr c = 0) :
    Calls Tryz.prog 28 #[.agg #[r, t, u, n]] w fun e w' => e = .returned (.tuple #[.agg #[.int .i64 0, .int .i64 0], .int .i64 (fitErr c)]) ∧ Below w.heap.size w w' := by
  have hBW : Below w.heap.size w ((w.alloc (.cells #[r, t, u, n] 26)).alloc (.cells #[.int .i64 0, .int .i64 0] 59)) := ((Below.refl w.heap.size w).alloc (Nat.le_refl _) _).alloc (by simp) _
  have hcA := (hc.below hBW (Nat.le_refl _)).mono (B' := ((w.alloc (.cells #[r, t, u, n] 26)).alloc (.cells #[.int .i64 0, .int .i64 0] 59)).heap.size) (by simp; omega)
  have HCK := Lib.hid (fitting_bad c r t u n _ hcA hk)
  have hs : ((w.alloc (.cells #[r, t, u, n] 26)).alloc (.cells #[.int .i64 0, .int .i64 0] 59)).heap[w.heap.size + 1]? = some (.cells #[.int .i64 0, .int .i64 0] 59 (0, 0)) := by
    have := heap_alloc_new (w.alloc (.cells #[r, t, u, n] 26)) (.cells #[.int .i64 0, .int .i64 0] 59)
    rw [World.size_alloc] at this
    exact this
  obtain ⟨hr, htr, hu, hn⟩ := hc
  obtain ⟨ar, cr, rfl, _⟩ := hr.open
  obtain ⟨at_, ct, rfl, _⟩ := htr.open
  obtain ⟨au, cu, rfl, _⟩ := hu.open
  obtain ⟨an, cn, rfl, _⟩ := hn.open
  have HB := Lib.hid hBW
  have HS := Lib.hid hs
  have hk1 : (fitErr c == 0) = false := by simpa using hk
  have hk2 : (fitErr c != 0) = true := by simp [bne, hk1]
  clear hr htr hu hn hBW hk hcA hs
  go_enter Tryz.func28, Tryz.ntmps28
  go_wp2_with fail
  refine HCK.out.mono ?_
  rintro e w1 ⟨rfl, hb1⟩
  have hs1 := (hb1.block (w.heap.size + 1) (by simp)).trans HS.out
  have k0 := (cell_of_row w1 _ 0 _ _ _ hs1).trans rfl
  have k1 := (cell_of_row w1 _ 1 _ _ _ hs1).trans rfl
  have k2 := frozen_of_row w1 _ 0 _ _ hs1
  have k3 := frozen_of_row w1 _ 1 _ _ hs1
  have HD := Lib.hid hb1
  clear hb1 hs1
  go_wp2_with fail
  refine bodyPost_ret (v := .tuple #[.agg #[.int .i64 0, .int .i64 0], .int .i64 (fitErr c)]) (by simp [results, Tryz.results28, go_sem, k0, k1]) rfl ⟨rfl, ?_⟩
  have h1 := HB.out.trans (HD.out.mono (by simp; omega))
  exact (h1.setCell (p := ⟨w.heap.size + 1, 0, none⟩) (Nat.le_succ _) _).setCell (p := ⟨w.heap.size + 1, 1, none⟩) (Nat.le_succ _) _
end Go.Proofs.YtnhifinfjfpoiaaGreat

namespace Go.Proofs.YtnhifinfjfpoiaaGreat
open Go.RowKit
set_option linter.unusedVariables false
attribute [local go_sem] Oper.semAt_some

theorem wrap64_i64 (x : Int) : I64 (wrap64 x) := by unfold wrap64 I64; omega
theorem intsV_app (l m : List Int) : intsV (l ++ m) = intsV l ++ intsV m := by simp [intsV]
theorem intsV_len (l : List Int) : (intsV l).length = l.length := by simp [intsV]
/-- A list of numbers of its own is a list that is read. -/
theorem nums_of_owns {w : World} {b e : Nat} {v : Value} {l : List Int} (h : w.ownsRow b e 1 v l.length (intsV l)) (hl : ∀ x ∈ l, I64 x) (hlen : l.length ≤ 140737488355328) : IsInts w w.heap.size v l := by
  refine ⟨?_, hl⟩
  have hlt := h.lt
  obtain ⟨_, h | ⟨g, cap, cur, rfl, hg, hc, hn, hm, hs, ht⟩⟩ := h
  · obtain ⟨rfl, hn⟩ := h
    exact ⟨none, 0, by rw [hn], by omega, hlen, .inl hn⟩
  · refine ⟨some ⟨g, 0, none⟩, cap, rfl, hn, hlen, .inr ⟨g, 0, rfl, (hlt g rfl).2, fun j hj => ?_⟩⟩
    have h1 := cell_of_row w g (0 + j) _ _ _ hc
    refine h1.trans ?_
    rw [Nat.mul_one] at ht hj
    have h2 : cur.toList[j]? = (intsV l)[j]? := by
      rw [← ht, List.getElem?_take, if_pos hj]
    rw [Nat.zero_add, ← Array.getElem?_toList, h2]
    simp [intsV, nth, hj]
def afterTo (c : Col) (k : Nat) : List Int := (List.range k).map fun h => mostC c (fitX c).all (leftC c h)
/-- How many rats can be in each house after the last night. -/
def afterC (c : Col) : List Int := afterTo c c.rooms.length
theorem afterTo_succ (c : Col) (k : Nat) : afterTo c (k + 1) = afterTo c k ++ [mostC c (fitX c).all (leftC c k)] := by simp [afterTo, List.range_succ]
theorem afterTo_len (c : Col) (k : Nat) : (afterTo c k).length = k := by simp [afterTo]
theorem afterTo_i64 (c : Col) (k : Nat) : ∀ x ∈ afterTo c k, I64 x := by
  intro x hx
  obtain ⟨h, _, rfl⟩ := List.mem_map.1 hx
  exact wrap64_i64 _

set_option maxRecDepth 100000 in
set_option maxHeartbeats 2000000 in
theorem After_ok (c : Col) (r t u n : Value) (w : World) (hc : ColAt w w.heap.size r t u n c) (hk : fitErr c = 0) :
    Calls Tryz.prog 30 #[.agg #[r, t, u, n]] w fun e w' => ∃ v, e = .returned (.tuple #[v, .int .i64 0]) ∧ IsInts w' w'.heap.size v (afterC c) ∧ Below w.heap.size w w' := by
  have o2 := (okCol_of (fit_parts hk).1).houses.2
  have hBW : Below w.heap.size w (w.alloc (.cells #[r, t, u, n] 26)) := (Below.refl w.heap.size w).alloc (Nat.le_refl _) _
  have hcA := (hc.below hBW (Nat.le_refl _)).mono (B' := (w.alloc (.cells #[r, t, u, n] 26)).heap.size) (by simp)
  have HCK := Lib.hid (fitting_ok c r t u n _ hcA hk)
  have c0 : (w.alloc (.cells #[r, t, u, n] 26)).cell? ⟨w.heap.size, 0, none⟩ = some r := by simp [go_sem]
  have HI0 := Lib.hid (info_parts infoInt)
  obtain ⟨hr, htr, hu, hn⟩ := hc
  obtain ⟨ar, cr, rfl, _⟩ := hr.open
  obtain ⟨at_, ct, rfl, _⟩ := htr.open
  obtain ⟨au, cu, rfl, _⟩ := hu.open
  obtain ⟨an, cn, rfl, _⟩ := hn.open
  have HB := Lib.hid hBW
  clear hr htr hu hn hBW hk hcA
  go_enter Tryz.func30, Tryz.ntmps30
  go_wp2_with fail
  refine HCK.out.mono ?_
  rintro e w1 ⟨p, rfl, hb1, hd⟩
  have c1 := (hb1.cell (p := ⟨w.heap.size, 0, none⟩) (by simp)).trans c0
  have hlt0 : w.heap.size < w1.heap.size := Nat.lt_of_lt_of_le (by simp) hb1.size
  have HD := Lib.hid (And.intro hb1 (And.intro hd c1))
  have HC1 := Lib.hid c1
  clear hb1 hd c0 c1
  have hkey : ∀ w2 : World, Below w1.heap.size w1 w2 → w2.cell? ⟨w.heap.size, 0, none⟩ = some (.slice ar c.rooms.length cr) := fun w2 h => (h.cell (p := ⟨w.heap.size, 0, none⟩) hlt0).trans HC1.out
  have HK := Lib.hid hkey; clear hkey
  go_wp2_with (go_at_call 93; refine (left_any c p _ HD.out.2.1).mono ?_; rintro e w2 ⟨rfl, hb2⟩; have H2 := Lib.hid hb2; have c2 := HK.out (w2.alloc (.cells (six (leftC c)) 129)) (hb2.alloc hb2.size _); unfold six at c2; clear hb2; simp only [six])
  obtain ⟨W3, hW3⟩ : ∃ W3, (w2.alloc (.cells (six (leftC c)) 129)) = W3 := ⟨_, rfl⟩
  have hs3 : SixIs W3 w2.heap.size 129 (leftC c) := by rw [← hW3]; exact heap_alloc_new _ _
  have hb3 : Below w1.heap.size w1 W3 := by rw [← hW3]; exact H2.out.alloc H2.out.size _
  have hle2 := H2.out.size
  unfold six at hW3
  rw [hW3]
  have H3 := Lib.hid (And.intro hs3 hb3)
  clear hW3 hs3 hb3 c2
  go_loopw [8, 24] (fun v i wr => ∃ k : Nat, k ≤ c.rooms.length ∧ i = .int .i64 k ∧ Hid (wr.ownsRow w1.heap.size 3 1 v k (intsV (afterTo c k)) ∧ SixIs wr w2.heap.size 129 (leftC c) ∧ Below w1.heap.size w1 wr)) (fun _ i _ => c.rooms.length - (intOf i).toNat)
  case atStart => exact ⟨0, Nat.zero_le _, rfl, World.ownsRow_nil _ _ _ _, H3.out.1, H3.out.2⟩
  case round =>
    obtain ⟨k, hk, rfl, hrel⟩ := hrel
    obtain ⟨i0, hi, hz0, hz1, hz2⟩ := HI0.out
    by_cases hlt : k < c.rooms.length
    · obtain ⟨hown, hsix, hB⟩ := hrel.out
      have hk6 : (k : Int) < 6 := by omega
      have hc3 := hsix.cell k (by omega)
      have hsz1 := hB.size
      have HR := Lib.hid (And.intro hown (And.intro hsix hB))
      have HDK := Lib.hid (HD.out.2.1.below hB)
      clear hrel hown hsix hB
      go_wp2_with (first | (at_builtin; refine wpList_append_own _ rfl _ _ 22 rfl w1.heap.size 3 i0 (.int .i64 0) 1 8 Tryz.underlying22 hi hz0 hz1 hz2 rfl (by decide) _ _ _ rfl HO.out ⟨w4.heap.size, 0, none⟩ 1 1 [.int .i64 (mostC c (fitX c).all (leftC c k))] rfl rfl (cell_one_new _ _ _) (fun x hx => by simp at hx; subst hx; rfl) (by unfold maxLen; omega) (by omega) (by simp; omega) ?_; intro v' w5 hown' hgrow _; have HG := Lib.hid (And.intro hown' hgrow); clear hown' hgrow) | (go_at_call 91; refine (most_any c p _ _ (leftC_lt c o2 k) _ HDK.out).mono ?_; rintro e w4 ⟨rfl, hb4⟩; have H4 := Lib.hid hb4; have hsz4 := hb4.size; have HO := Lib.hid ((owns_below HR.out.1 hb4).alloc (.cells #[.int .i64 (mostC c (fitX c).all (leftC c k))] 3)); clear hb4))
      go_roundw
      case rel =>
        obtain ⟨hown, hsix, hB⟩ := HR.out
        obtain ⟨hown', hgrow⟩ := HG.out
        have hb4 := H4.out
        have hbA : Below w1.heap.size w1 (w4.alloc (.cells #[.int .i64 (mostC c (fitX c).all (leftC c k))] 3)) := (hB.trans (hb4.mono hsz1)).alloc (by omega) _
        have hlt2 : w2.heap.size < wr.heap.size := (Array.getElem?_eq_some_iff.1 hsix).1
        have hsixA : SixIs (w4.alloc (.cells #[.int .i64 (mostC c (fitX c).all (leftC c k))] 3)) w2.heap.size 129 (leftC c) := hsix.below ((hb4.alloc hsz4 _)) hlt2
        refine ⟨k + 1, by omega, by go_num, ?_, (hgrow.block _ (by simp; omega) (not_own HO.out hsixA (by decide))).trans hsixA, below_grown hbA hgrow (fun r hr => (HO.out.lt r hr).1) (by simp; omega)⟩
        rw [afterTo_succ, intsV_app]
        exact hown'
      case measure => simp [intOf]; omega
    · obtain rfl : k = c.rooms.length := by omega
      go_wp2_with fail
      go_ret2
      have h1 := HB.out.trans (HD.out.1.mono (by simp))
      refine ⟨_, rfl, nums_of_owns (b := w1.heap.size) (e := 3) (by rw [afterC, afterTo_len]; exact hrel.out.1) (afterTo_i64 c _) (by rw [afterC, afterTo_len]; omega), h1.trans (hrel.out.2.2.mono h1.size)⟩
theorem After_bad (c : Col) (r t u n : Value) (w : World) (hc : ColAt w w.heap.size r t u n c) (hk : ¬ fitErr c = 0) :
    Calls Tryz.prog 30 #[.agg #[r, t, u, n]] w fun e w' => e = .returned (.tuple #[.slice none 0 0, .int .i64 (fitErr c)]) ∧ Below w.heap.size w w' := by
  have hBW : Below w.heap.size w (w.alloc (.cells #[r, t, u, n] 26)) := (Below.refl w.heap.size w).alloc (Nat.le_refl _) _
  have hcA := (hc.below hBW (Nat.le_refl _)).mono (B' := (w.alloc (.cells #[r, t, u, n] 26)).heap.size) (by simp)
  have HCK := Lib.hid (fitting_bad c r t u n _ hcA hk)
  obtain ⟨hr, htr, hu, hn⟩ := hc
  obtain ⟨ar, cr, rfl, _⟩ := hr.open
  obtain ⟨at_, ct, rfl, _⟩ := htr.open
  obtain ⟨au, cu, rfl, _⟩ := hu.open
  obtain ⟨an, cn, rfl, _⟩ := hn.open
  have HB := Lib.hid hBW
  have hk1 : (fitErr c == 0) = false := by simpa using hk
  have hk2 : (fitErr c != 0) = true := by simp [bne, hk1]
  clear hr htr hu hn hBW hk hcA
  go_enter Tryz.func30, Tryz.ntmps30
  go_wp2_with fail
  refine HCK.out.mono ?_
  rintro e w1 ⟨rfl, hb1⟩
  go_wp2_with fail
  go_ret2
  exact ⟨rfl, HB.out.trans (hb1.mono (by simp))⟩
end Go.Proofs.YtnhifinfjfpoiaaGreat
