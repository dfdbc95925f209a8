/- An append to a list of one's own that is not nil, of some elements or of none: as a step of a region that draws its order. Contracts of slices.Clone over rows, and of the laws' within and from. Contract of the laws' from: how many rats of a truth have come from a house. Contract of rat.Fits. Contract of rat.Fits, where lists have the lengths that are asked. Contract of Own: a colony of its own. Contracts of rat.Find. -/
import Derived.Test.YtnhifinfjfpoiaaK01
import Derived.Test.YtnhifinfjfpoiaaK09
import Derived.Test.YtnhifinfjfpoiaaK15
import Derived.Test.YtnhifinfjfpoiaaK11
import Derived.Test.YtnhifinfjfpoiaaK13
import Derived.Test.YtnhifinfjfpoiaaK10
import Derived.Test.YtnhifinfjfpoiaaK05
import Derived.Deep.AppendLies
import Derived.Deep.Upon
import Derived.Deep.RegionHeld3
import Derived.StillTailTactics
import Derived.Deep.DeepCutAuto
import Derived.Deep.DeepMust
namespace Go.Proofs.Ytnhifinfjfpoiaa
open Go.RowKit
set_option linter.unusedVariables false

theorem step_append_lies0 {P : Program} {w : World} {ops : Array Oper} {o : Oper} {a : Act} {K : Act → World → Prop} {Q : Exit → Act → World → Prop} {E : Prop} (hgd : o.guard = none) (s x : Operand) (t : TypeId)
    (ho : o.op = .call { callee := .builtin .append, args := #[s, x], argTypes := #[t, t] })
    (base : Nat) (e : TypeId) (i : TypeInfo) (z : Value) (size bytes : Nat) (ht : P.underlying t = some (.slice e)) (hi : P.info? e = some i) (hz : i.zero = some z)
    (hsize : i.size = size) (hby : i.bytes = bytes) (hzs : z.cells.size = size) (hsz : 0 < size)
    (g0 n q0 : Nat) (xs : List Value) (hs : a.eval s = .slice (some ⟨g0, 0, none⟩) n q0) (hown : w.ownsRow base e size (.slice (some ⟨g0, 0, none⟩) n q0) n xs)
    (ad : Option Addr) (m c : Nat) (hmc : m ≤ c) (news : List Value) (hx : a.eval x = .slice ad m c) (hl : news.length = m * size) (hnews : 0 < m → ∃ b off, ad = some ⟨b, off, none⟩ ∧ ∀ j u, news[j]? = some u → w.cell? ((⟨b, off, none⟩ : Addr).add j) = some u) (h1 : ∀ u ∈ news, u.oneCell' = true)
    (h63 : n + m ≤ maxLen) (hbytes : (n + m) * bytes ≤ 140737488355328) (hbase : base ≤ w.heap.size)
    (h : ∀ g cap w', w'.ownsRow base e size (.slice (some ⟨g, 0, none⟩) (n + m) cap) (n + m) (xs ++ news) → w.grownBy w' (some g0) → K (a.put o.dst (.slice (some ⟨g, 0, none⟩) (n + m) cap)) w') :
    if Region.wanted o (yielded ops a.tmps) = true then Oper.wp P o a w K Q else E := by
  rcases Nat.eq_zero_or_pos m with h0 | h0
  · subst h0
    have hw : Region.wanted o (yielded ops a.tmps) = true := by simp [Region.wanted, hgd]
    rw [if_pos hw]
    have hn0 : news = [] := List.length_eq_zero_iff.1 (by omega)
    subst hn0
    have hcap : n ≤ q0 := by
      rcases hown.2 with ⟨hc, _⟩ | ⟨g, cap, cur, hc, _, _, hnc, _⟩
      · cases hc
      · cases hc; exact hnc
    have hsrc : Src P i.size t (.slice ad 0 c) 0 [] w := by
      refine ⟨.inl ⟨e, ht⟩, fun w' => ?_, ?_, ?_, by simp, by simp⟩
      · simp [Builtin.lenOf]
      · cases ad <;> simp [Builtin.firstCells, loadCells, loadCellsFrom]
      · cases ad <;> simp [Builtin.firstCells, loadCells, loadCellsFrom]
    have hrun := run_append_nothing (P := P) w t t o.type e i ht hi (some ⟨g0, 0, none⟩) n q0 hcap (.slice ad 0 c) hsrc
    unfold Oper.wp
    simp [execOp, ho, resolve, invoke, builtin, hs, hx, hrun, Result.andThen]
    have := h g0 q0 w (by simpa using hown) ⟨rfl, rfl, rfl, Nat.le_refl _, fun _ _ _ => rfl⟩
    show K (a.put o.dst (.slice (some ⟨g0, 0, none⟩) n q0)) w
    simpa using this
  · obtain ⟨b, off, rfl, hc⟩ := hnews h0
    exact step_append_lies (w := w) hgd s x t ho base e i z size bytes ht hi hz hsize hby hzs hsz (.slice (some ⟨g0, 0, none⟩) n q0) n xs hs hown ⟨b, off, none⟩ m c news hx hl hc h1 h0 h63 hbytes hbase w.heap.size rfl (fun g cap w' h2 h3 _ _ => h g cap w' h2 h3)
end Go.Proofs.Ytnhifinfjfpoiaa

namespace Go.Proofs.Ytnhifinfjfpoiaa
open Go.RowKit
set_option linter.unusedVariables false
set_option linter.unusedSimpArgs false

theorem within_any (n a b : Int) (w : World) :
    Calls Try.prog 74 #[.int .i64 n, .agg #[.int .i64 a, .int .i64 b]] w fun e w' => e = .returned (.bool (decide (a ≤ n) && decide (n ≤ b))) ∧ w.alloc (.cells #[.int .i64 a, .int .i64 b] 49) = w' := by
  by_cases h1 : a ≤ n
  · rw [show (decide (a ≤ n) && decide (n ≤ b)) = decide (n ≤ b) by simp [h1]]
    by_cases h2 : n ≤ b
    all_goals
      go_enter Try.func74, Try.ntmps74
      go_wp2_with fail
      go_ret
      exact ⟨ret_bool (by simp [*]), rfl⟩
  · rw [show (decide (a ≤ n) && decide (n ≤ b)) = false by simp [h1]]
    go_enter Try.func74, Try.ntmps74
    go_wp2_with fail
    all_goals (first | (refine ⟨fun _ h => (by cases h), ?_⟩; go_wp2_with fail) | skip)
    go_ret
    exact ⟨rfl, rfl⟩
theorem wpList_append_lies0 {P : Program} {w : World} {ops : Array Oper} {rest : List Oper} {o : Oper} {a : Act} {Q : Exit → Act → World → Prop} (hgd : o.guard = none) (s x : Operand) (t : TypeId)
    (ho : o.op = .call { callee := .builtin .append, args := #[s, x], argTypes := #[t, t] })
    (base : Nat) (e : TypeId) (i : TypeInfo) (z : Value) (size bytes : Nat) (ht : P.underlying t = some (.slice e)) (hi : P.info? e = some i) (hz : i.zero = some z)
    (hsize : i.size = size) (hby : i.bytes = bytes) (hzs : z.cells.size = size) (hsz : 0 < size)
    (g0 n q0 : Nat) (xs : List Value) (hs : a.eval s = .slice (some ⟨g0, 0, none⟩) n q0) (hown : w.ownsRow base e size (.slice (some ⟨g0, 0, none⟩) n q0) n xs)
    (ad : Option Addr) (m c : Nat) (hmc : m ≤ c) (news : List Value) (hx : a.eval x = .slice ad m c) (hl : news.length = m * size) (hnews : 0 < m → ∃ b off, ad = some ⟨b, off, none⟩ ∧ ∀ j u, news[j]? = some u → w.cell? ((⟨b, off, none⟩ : Addr).add j) = some u) (h1 : ∀ u ∈ news, u.oneCell' = true)
    (h63 : n + m ≤ maxLen) (hbytes : (n + m) * bytes ≤ 140737488355328) (hbase : base ≤ w.heap.size)
    (h : ∀ g cap w', w'.ownsRow base e size (.slice (some ⟨g, 0, none⟩) (n + m) cap) (n + m) (xs ++ news) → w.grownBy w' (some g0) → wpList P ops Q rest (a.put o.dst (.slice (some ⟨g, 0, none⟩) (n + m) cap)) w') :
    wpList P ops Q (o :: rest) a w := by
  refine wpList_plain hgd fun K hK => ?_
  have k := step_append_lies0 (P := P) (w := w) (ops := ops) (K := K) (Q := Q) (E := True) hgd s x t ho base e i z size bytes ht hi hz hsize hby hzs hsz g0 n q0 xs hs hown ad m c hmc news hx hl hnews h1 h63 hbytes hbase (fun g cap w' h2 h3 => hK _ _ (h g cap w' h2 h3))
  have hw : Region.wanted o (yielded ops a.tmps) = true := by simp [Region.wanted, hgd]
  rw [if_pos hw] at k
  exact k
set_option maxRecDepth 100000 in
set_option maxHeartbeats 1000000 in
theorem cloneR_any (n : Nat) (f : Nat → Value) (v : Value) (w : World) (h : SlAt w w.heap.size v n 1 f) (hone : ∀ j, j < n → (f j).oneCell' = true) (h100 : n ≤ 100) :
    Calls Try.prog 133 #[v] w fun e w' => ∃ v', e = .returned v' ∧ w'.ownsRow w.heap.size 22 1 v' n ((List.range n).map f) ∧ Below w.heap.size w w' := by
  obtain ⟨a, c, rfl, hc, hbig, h3⟩ := h
  obtain ⟨i0, hi, hz0, hz1, hz2⟩ := info_parts infoRow
  have hone : ∀ u ∈ (List.range n).map f, u.oneCell' = true := fun u hu => by
    obtain ⟨j, hj, rfl⟩ := List.mem_map.1 hu
    exact hone j (List.mem_range.1 hj)
  have HO := Lib.hid hone
  have H3 := Lib.hid h3
  clear hone h3
  cases a with
  | none =>
    have h0 : n = 0 := by
      rcases H3.out with e | ⟨b, off, e, _⟩
      · omega
      · cases e
    have HE : Hid (World.ownsRow w w.heap.size 22 1 (.slice none 0 0) n ((List.range n).map f)) := by
      rw [h0]; exact World.ownsRow_nil _ _ _ _
    have heq := fun W => run_eql_slice_nil (P := Try.prog) W 24 22 none n c Try.underlying24
    have hisn : Option.isNone (none : Option Addr) = true := rfl
    clear h0
    go_enter Try.func133, Try.ntmps133
    go_wp2_with fail
    go_ret
    exact ⟨_, rfl, HE.out, Below.refl _ _⟩
  | some ad =>
    have heq := fun W => run_eql_slice_nil (P := Try.prog) W 24 22 (some ad) n c Try.underlying24
    have hisn : Option.isNone (some ad) = false := rfl
    go_enter Try.func133, Try.ntmps133
    go_wp2_with (at_builtin; refine wpList_append_lies0 rfl _ _ 24 rfl w.heap.size 22 i0 (.slice none 0 0) 1 24 Try.underlying24 hi hz0 hz1 hz2 rfl (by decide) w.heap.size 0 0 [] rfl (World.ownsRow_made w #[] 0 (Nat.le_refl _) (Nat.zero_le _) rfl) (some ad) n c hc ((List.range n).map f) rfl ?qc1 ?qc2 ?qc3 ?qc4 ?qc5 ?qc6 ?_)
    case qc1 => simp
    case qc2 =>
      intro hpos
      rcases H3.out with e | ⟨b, off, e, hb, hcell⟩
      · omega
      · cases e
        refine ⟨b, off, rfl, fun j u hj => ?_⟩
        have hjn : j < n := by
          have := (List.getElem?_eq_some_iff.1 hj).1
          simpa using this
        rw [Addr.add_lit]
        refine Lib.cell?_alloc_some _ ?_
        rw [hcell j (by omega), ← hj]
        simp [hjn]
    case qc3 => exact HO.out
    case qc4 => unfold maxLen; omega
    case qc5 => omega
    case qc6 => simp
    intro g q w1 hown hgrow
    have HOW := Lib.hid hown; have HG := Lib.hid hgrow
    clear hown hgrow
    go_wp2_with fail
    go_ret
    refine ⟨_, rfl, ?_, ?_⟩
    · simpa using HOW.out
    · exact ((Below.refl _ w).alloc (Nat.le_refl _) _).grown HG.out (by simp) (by intro k hk; simp at hk; omega)
end Go.Proofs.Ytnhifinfjfpoiaa

namespace Go.Proofs.Ytnhifinfjfpoiaa
open Go.RowKit
set_option linter.unusedVariables false
set_option linter.unusedSimpArgs false

def BoxT (b : Nat) (x y : Value) (W : World) : Prop := W.cell? ⟨b, 0, none⟩ = some x ∧ W.cell? ⟨b, 1, none⟩ = some y
/-- All rows of a truth in a row of one's own. -/
def AllRows (w : World) (n : Nat) (heads : List Value) (s : Value) (W : World) : Prop := ∃ B g cap, s = .slice (some ⟨g, 0, none⟩) (n + 1) cap ∧ W.ownsRow B 22 1 s (n + 1) heads ∧ Below w.heap.size w W
theorem fromT_sum (T : List (List Int)) (L : List Int) (h : Nat) : sumN (fun k => nth (nthR (T ++ [L]) k) h) (T.length + 1) = fromT T L h T.length := by
  rw [sumN_succ, nthR_new]
  unfold fromT
  rw [sumN_congr (fun i hi => by rw [nthR_app hi])]

set_option maxRecDepth 100000 in
set_option maxHeartbeats 4000000 in
theorem from_any (T : List (List Int)) (L : List Int) (n h : Nat) (tv lv : Value) (w : World) (ht : IsRows w w.heap.size tv T) (hl : IsInts w w.heap.size lv L) (hT : T.length ≤ 100) (hrow : ∀ k, k < T.length → (nthR T k).length = n) (hL : L.length = n) (hh : h < n)
    (hbl : 0 ≤ nth L h ∧ nth L h ≤ 1000) (hbt : ∀ k, k < T.length → 0 ≤ nth (nthR T k) h ∧ nth (nthR T k) h ≤ 1000) :
    Calls Try.prog 75 #[.agg #[tv, lv], .int .i64 h] w fun e w' => e = .returned (.int .i64 (fromT T L h T.length)) ∧ Below w.heap.size w w' := by
  obtain ⟨f, hs, hf⟩ := ht
  have hone : ∀ j, j < T.length → (f j).oneCell' = true := fun j hj => by
    obtain ⟨a', c', e', _⟩ := (hf j hj).open
    rw [e']; rfl
  subst hL
  obtain ⟨al, cl, rfl, _⟩ := hl.open
  have hkey : ∀ k, k < T.length + 1 → ∃ u, ((List.range T.length).map f ++ [.slice al L.length cl])[k]? = some u ∧ IsInts w w.heap.size u (nthR (T ++ [L]) k) ∧ (nthR (T ++ [L]) k).length = L.length ∧ 0 ≤ nth (nthR (T ++ [L]) k) h ∧ nth (nthR (T ++ [L]) k) h ≤ 1000 := fun k hk => by
    by_cases e : k < T.length
    · rw [nthR_app e]
      exact ⟨f k, by rw [List.getElem?_append_left (by simpa using e)]; simp [e], hf k e, hrow k e, hbt k e⟩
    · obtain rfl : k = T.length := by omega
      rw [nthR_new]
      exact ⟨.slice al L.length cl, by rw [List.getElem?_append_right (by simp)]; simp, hl, rfl, hbl⟩
  have hsum : ∀ k, k ≤ T.length + 1 → 0 ≤ sumN (fun k => nth (nthR (T ++ [L]) k) h) k ∧ sumN (fun k => nth (nthR (T ++ [L]) k) h) k ≤ 1000 * k := fun k hk => ⟨sumN_nonneg fun i hi => by obtain ⟨u, _, _, _, a, _⟩ := hkey i (by omega); exact a, sumN_bound fun i hi => by obtain ⟨u, _, _, _, _, a⟩ := hkey i (by omega); exact a⟩
  have HS := Lib.hid (And.intro hs hone)
  have HK := Lib.hid hkey
  have HSM := Lib.hid hsum
  have HP := Lib.hid ((PW.start w).newBlk 55 #[tv, .slice al L.length cl])
  clear hs hf hone hkey hl hrow hbl hbt hsum
  go_enter Try.func75, Try.ntmps75
  go_upto_region 2 with (fail)
  obtain ⟨W0, hW0⟩ : ∃ W0, w.alloc (.cells #[tv, .slice al L.length cl] 55) = W0 := ⟨_, rfl⟩
  obtain ⟨b0, hb0⟩ : ∃ b0, w.heap.size = b0 := ⟨_, rfl⟩
  have hP := HP.out
  rw [hW0] at hP ⊢
  have hB0 : (pBlk w.heap.size 55 #[tv, .slice al L.length cl]) = pBlk b0 55 #[tv, .slice al L.length cl] := by rw [hb0]
  rw [show [] ++ [pBlk w.heap.size 55 #[tv, .slice al L.length cl]] = [pBlk b0 55 #[tv, .slice al L.length cl]] by rw [hB0]; rfl] at hP
  have HP := Lib.hid hP
  have HB0 := Lib.hid hb0
  rw [hb0]
  clear hW0 hP hB0 hb0
  go_cut [14, 15, 16] (fun s14 s15 s16 wx => Hid (AllRows w T.length ((List.range T.length).map f ++ [.slice al L.length cl]) s14 wx) ∧ s15 = .int .i64 ((T.length : Int) + 1) ∧ s16 = .int .i64 0)
  case first =>
    have HD := Lib.hid HP.out.drew
    have hC : BoxT b0 tv (.slice al L.length cl) W0.drew := two_at (HD.out.at 0 rfl)
    refine wp_region_noPanic ?_
    refine anyL_start (S := Till [] (BoxT b0 tv (.slice al L.length cl))) (by kernel_rfl) (fun _ => hC) (fun hT => ?_)
    refine takeL0 (i := 0) (d := 8) (v := ?_) rfl rfl (by kernel_rfl) (by kernel_rfl) (by kernel_rfl) (by kernel_rfl) (fun _ _ _ _ _ h => h) (by rfl) ?_ (fun _ => hC) ?_
    rotate_left
    · intro w
      go_simp
      try with_reducible rfl
    (try simp only [Act.put, List.setIfInBounds_toArray, List.set_cons_zero, List.set_cons_succ])
    refine takeL0 (i := 3) (d := 11) (v := ?_) rfl rfl (by kernel_rfl) (by kernel_rfl) (by kernel_rfl) (by kernel_rfl) (fun _ _ _ _ _ h => h) (by rfl) ?_ (fun _ => hC) ?_
    rotate_left
    · intro w
      go_simp
      try with_reducible rfl
    (try simp only [Act.put, List.setIfInBounds_toArray, List.set_cons_zero, List.set_cons_succ])
    refine takeL0 (i := 8) (d := 16) (v := ?_) rfl rfl (by kernel_rfl) (by kernel_rfl) (by kernel_rfl) (by kernel_rfl) (fun _ _ _ _ _ h => h) (by rfl) ?_ (fun _ => hC) ?_
    rotate_left
    · intro w
      go_simp
      try with_reducible rfl
    (try simp only [Act.put, List.setIfInBounds_toArray, List.set_cons_zero, List.set_cons_succ])
    refine takeL (i := 1) (d := 9) (v := ?_) rfl rfl (by kernel_rfl) (by kernel_rfl) (by kernel_rfl) (by kernel_rfl) (by kernel_rfl) (by kernel_rfl) (fun _ _ _ _ _ h => h) (by rfl) ?_ hC ?_
    rotate_left
    · intro w hSw
      (try dsimp only at hSw)
      obtain ⟨hS0, hS1⟩ := hSw
      go_simp
      try with_reducible rfl
    (try simp only [Act.put, List.setIfInBounds_toArray, List.set_cons_zero, List.set_cons_succ])
    refine takeL (i := 4) (d := 12) (v := ?_) rfl rfl (by kernel_rfl) (by kernel_rfl) (by kernel_rfl) (by kernel_rfl) (by kernel_rfl) (by kernel_rfl) (fun _ _ _ _ _ h => h) (by rfl) ?_ hC ?_
    rotate_left
    · intro w hSw
      (try dsimp only at hSw)
      obtain ⟨hS0, hS1⟩ := hSw
      go_simp
      try with_reducible rfl
    (try simp only [Act.put, List.setIfInBounds_toArray, List.set_cons_zero, List.set_cons_succ])
    refine someL (rs := [2, 5]) (by kernel_rfl) (by simp) (all_cons ?_ (all_cons ?_ all_nil))
    · refine pickL (i := 2) rfl (fun K hK => ?_)
      go_simp
      refine (cloneR_any T.length f tv _ ((HS.out.1.below HD.out.low (Nat.le_refl _)).mono HD.out.size) HS.out.2 (by assumption)).mono ?_
      rintro e wC ⟨cv, rfl, hown, hbC⟩
      have HX1 := Lib.hid (HD.out.push (pRow _ 22 1 T.length cv ((List.range T.length).map f)) hbC hown (fun k hk => hown.lt k hk))
      obtain ⟨aC, qC, rfl⟩ := owns_slice hown
      have hz1 := hbC.size
      (try simp only [World.size_drew] at hz1)
      clear hC hown hbC
      have hC : BoxT b0 tv (.slice al L.length cl) wC := two_at (HX1.out.at 0 rfl)
      go_simp
      refine hK.out _ _ (fun _ => hC) ?_
      clear hK K
      (try simp only [Act.put, List.setIfInBounds_toArray, List.set_cons_zero, List.set_cons_succ])
      refine nextL (i := 5) rfl (by kernel_rfl) (fun K hK => ?_)
      go_simp
      have HX20 := HX1.out.newBlk 22 #[.slice al L.length cl]
      (try simp only [World.size_alloc, World.size_drew, World.alloc_drew] at HX20)
      generalize hWB : World.alloc _ _ = wB at HX20 ⊢
      have hzB := congrArg (fun v : World => v.heap.size) hWB
      (try simp only [World.size_alloc, World.size_drew, World.alloc_drew] at hzB)
      have HZB := Lib.hid hzB
      clear hzB
      have HX2 := Lib.hid HX20
      clear HX20 hWB
      clear hC
      have hC : BoxT b0 tv (.slice al L.length cl) wB := two_at (HX2.out.at 0 rfl)
      refine hK.out _ _ (fun _ => hC) ?_
      clear hK K
      (try simp only [Act.put, List.setIfInBounds_toArray, List.set_cons_zero, List.set_cons_succ])
      refine nextL (i := 6) rfl (by kernel_rfl) (fun K hK => ?_)
      refine HX2.out.step_row 1 ((List.range T.length).map f) (.slice al L.length cl) rfl (by have := HZB.out; (try simp only [World.size_drew]); omega) (by omega) rfl rfl _ _ (by rfl) (by rfl) _ (by rfl) (World.news_of_block (HX2.out.at 2 rfl)) ?_
      intro g cap w' hm hb' _
      change K (Act.put _ (some 14) _) _
      have HX3 := Lib.hid hm
      clear hC hm hb'
      have hC : BoxT b0 tv (.slice al L.length cl) w' := two_at (HX3.out.at 0 rfl)
      refine hK.out _ _ (fun _ => hC) ?_
      clear hK K
      (try simp only [Act.put, List.setIfInBounds_toArray, List.set_cons_zero, List.set_cons_succ])
      refine takeL0 (i := 7) (d := 15) (v := ?_) rfl rfl (by kernel_rfl) (by kernel_rfl) (by kernel_rfl) (by kernel_rfl) (fun _ _ _ _ _ h => h) (by rfl) ?_ (fun _ => hC) ?_
      rotate_left
      · intro w
        go_simp
        try with_reducible rfl
      (try simp only [Act.put, List.setIfInBounds_toArray, List.set_cons_zero, List.set_cons_succ])
      refine anyL_done (by kernel_rfl) ?_ _
      refine NoPanic.normal ?_
      have HF := Lib.hid (And.intro (HX3.out.at 1 rfl) HX3.out.low)
      go_wp2_with fail
      go_meet
      exact ⟨⟨_, g, cap, rfl, HF.out.1, HF.out.2⟩, rfl, rfl⟩
    · refine pickL (i := 5) rfl (fun K hK => ?_)
      go_simp
      have HX10 := HD.out.newBlk 22 #[.slice al L.length cl]
      (try simp only [World.size_alloc, World.size_drew, World.alloc_drew] at HX10)
      generalize hWB : World.alloc _ _ = wB at HX10 ⊢
      have hzB := congrArg (fun v : World => v.heap.size) hWB
      (try simp only [World.size_alloc, World.size_drew, World.alloc_drew] at hzB)
      have HZB := Lib.hid hzB
      clear hzB
      have HX1 := Lib.hid HX10
      clear HX10 hWB
      clear hC
      have hC : BoxT b0 tv (.slice al L.length cl) wB := two_at (HX1.out.at 0 rfl)
      refine hK.out _ _ (fun _ => hC) ?_
      clear hK K
      (try simp only [Act.put, List.setIfInBounds_toArray, List.set_cons_zero, List.set_cons_succ])
      refine nextL (i := 2) rfl (by kernel_rfl) (fun K hK => ?_)
      go_simp
      refine (cloneR_any T.length f tv _ ((HS.out.1.below HX1.out.low (Nat.le_refl _)).mono HX1.out.size) HS.out.2 (by assumption)).mono ?_
      rintro e wC ⟨cv, rfl, hown, hbC⟩
      have HX2 := Lib.hid (HX1.out.push (pRow _ 22 1 T.length cv ((List.range T.length).map f)) hbC hown (fun k hk => hown.lt k hk))
      obtain ⟨aC, qC, rfl⟩ := owns_slice hown
      have hz2 := hbC.size
      (try simp only [World.size_drew] at hz2)
      clear hC hown hbC
      have hC : BoxT b0 tv (.slice al L.length cl) wC := two_at (HX2.out.at 0 rfl)
      go_simp
      refine hK.out _ _ (fun _ => hC) ?_
      clear hK K
      (try simp only [Act.put, List.setIfInBounds_toArray, List.set_cons_zero, List.set_cons_succ])
      refine nextL (i := 6) rfl (by kernel_rfl) (fun K hK => ?_)
      refine HX2.out.step_row 2 ((List.range T.length).map f) (.slice al L.length cl) rfl (by have := HZB.out; (try simp only [World.size_drew]); omega) (by omega) rfl rfl _ _ (by rfl) (by rfl) _ (by rfl) (World.news_of_block (HX2.out.at 1 rfl)) ?_
      intro g cap w' hm hb' _
      change K (Act.put _ (some 14) _) _
      have HX3 := Lib.hid hm
      clear hC hm hb'
      have hC : BoxT b0 tv (.slice al L.length cl) w' := two_at (HX3.out.at 0 rfl)
      refine hK.out _ _ (fun _ => hC) ?_
      clear hK K
      (try simp only [Act.put, List.setIfInBounds_toArray, List.set_cons_zero, List.set_cons_succ])
      refine takeL0 (i := 7) (d := 15) (v := ?_) rfl rfl (by kernel_rfl) (by kernel_rfl) (by kernel_rfl) (by kernel_rfl) (fun _ _ _ _ _ h => h) (by rfl) ?_ (fun _ => hC) ?_
      rotate_left
      · intro w
        go_simp
        try with_reducible rfl
      (try simp only [Act.put, List.setIfInBounds_toArray, List.set_cons_zero, List.set_cons_succ])
      refine anyL_done (by kernel_rfl) ?_ _
      refine NoPanic.normal ?_
      have HF := Lib.hid (And.intro (HX3.out.at 2 rfl) HX3.out.low)
      go_wp2_with fail
      go_meet
      exact ⟨⟨_, g, cap, rfl, HF.out.1, HF.out.2⟩, rfl, rfl⟩
  case rest =>
    obtain ⟨hrow, rfl, rfl⟩ := hcut
    obtain ⟨B, g, cap, rfl, hown, hlow⟩ := hrow.out
    obtain ⟨cur, hcur, hcells⟩ : ∃ cur : Array Value, wc.heap[g]? = some (.cells cur 22 (0, 0)) ∧ ∀ k, k < T.length + 1 → cur[k]? = ((List.range T.length).map f ++ [.slice al L.length cl])[k]? := by
      obtain ⟨_, ⟨_, h0⟩ | ⟨g', cap', cur, e, _, hg, hn, hm, hs, ht⟩⟩ := hown
      · omega
      · cases e
        rw [Nat.mul_one] at ht
        refine ⟨cur, hg, fun k hk => ?_⟩
        have h6 : (List.take (T.length + 1) cur.toList)[k]? = ((List.range T.length).map f ++ [.slice al L.length cl])[k]? := by rw [ht]
        rw [List.getElem?_take, if_pos hk, Array.getElem?_toList] at h6
        exact h6
    have HW := Lib.hid (And.intro hcur (And.intro hcells hlow))
    clear hrow hown hcur hcells hlow HP HS
    go_wp2_with fail
    go_loopw [5, 16] (fun s i wr => ∃ k : Nat, k ≤ T.length + 1 ∧ i = .int .i64 k ∧ s = .int .i64 (sumN (fun k => nth (nthR (T ++ [L]) k) h) k) ∧ wc = wr) (fun _ i _ => T.length + 1 - (intOf i).toNat)
    case atStart => exact ⟨0, Nat.zero_le _, rfl, rfl, rfl⟩
    case round =>
      obtain ⟨k, hk, rfl, rfl, rfl⟩ := hrel
      have hs := HSM.out k hk
      obtain ⟨S, hS⟩ : ∃ S, sumN (fun k => nth (nthR (T ++ [L]) k) h) k = S := ⟨_, rfl⟩
      rw [hS] at hs ⊢
      have HSS := Lib.hid hS
      clear hS
      by_cases hlt : k < T.length + 1
      · have hki : (k : Int) < (T.length : Int) + 1 := by omega
        obtain ⟨u, e1, e2, e3, e4, e5⟩ := HK.out k hlt
        obtain ⟨a, q, rfl, _, _, hc⟩ := e2.open
        rw [e3] at e1 hc
        have m1 := (cell_of_row wc g k _ _ _ HW.out.1).trans ((HW.out.2.1 k hlt).trans e1)
        obtain ⟨b, off, rfl, hb, hcell⟩ := hc h hh
        have m2 := (HW.out.2.2.cell (p := ⟨b, off + h, none⟩) hb).trans hcell
        have hhi : (h : Int) < L.length := by omega
        clear e1 e2 e3 hc hcell hb
        go_wp2_with fail
        go_roundw
        case rel => exact ⟨k + 1, by omega, by go_num, by rw [sumN_succ, HSS.out], by simp⟩
        case measure => simp [intOf]; omega
      · obtain rfl : k = T.length + 1 := by omega
        rw [fromT_sum] at HSS
        go_wp2_with fail
        go_ret
        exact ⟨ret_int HSS.out.symm, HW.out.2.2⟩
end Go.Proofs.Ytnhifinfjfpoiaa

namespace Go.Proofs.Ytnhifinfjfpoiaa
open Go.RowKit
set_option linter.unusedVariables false
set_option linter.unusedSimpArgs false
attribute [local go_sem] Oper.semAt_some

theorem truth_at {W : World} {p t : Nat} {a b : Value} (h : W.heap[p]? = some (.cells #[a, b] t (0, 0))) : W.cell? ⟨p, 0, none⟩ = some a ∧ W.cell? ⟨p, 1, none⟩ = some b :=
  ⟨(cell_of_row _ _ 0 _ _ _ h).trans rfl, (cell_of_row _ _ 1 _ _ _ h).trans rfl⟩

/-- Do all rows have so many numbers? -/
theorem every_rows {W : World} {T : List (List Int)} {a : Option Addr} {q : Nat} (h : IsRows W W.heap.size (.slice a T.length q) T) (bx n : Nat) (hc : W.cell? ⟨bx, 0, none⟩ = some (.int .i64 n)) :
    Calls Try.prog 79 #[.slice a T.length q, .func (.func 131) #[] #[.pointer (some ⟨bx, 0, none⟩)]] W fun e w' => e = .returned (.bool (allB (fun i => (nthR T i).length == n) T.length)) ∧ Below W.heap.size W w' := by
  obtain ⟨fT, hsT, hrT⟩ := h
  have hbl := block_lt_of_cell hc
  refine everyRows_any (.slice a T.length q) T.length 131 #[.pointer (some ⟨bx, 0, none⟩)] (fun i => (nthR T i).length == n) fT W hsT ⟨Try.call131, fun i hi w' hw' hB => ?_⟩
  have hbx := (hw'.cell (p := ⟨bx, 0, none⟩) hbl).trans hc
  obtain ⟨a', cap, hv, q1, q2, _⟩ := (hrT i hi).open
  show Calls _ _ (#[fT i] ++ _) _ _
  rw [hv]
  refine (fits1_any a' _ cap n bx w' q2 hbx).mono ?_
  rintro e w'' ⟨rfl, rfl⟩
  exact ⟨ret_bool (by rw [Bool.eq_iff_iff]; simp; omega), Below.refl _ _⟩

set_option maxRecDepth 100000 in
set_option maxHeartbeats 4000000 in
theorem Fits_bad (c : Col) (r t u n tv lv : Value) (T : List (List Int)) (L : List Int) (w : World) (hc : ColAt w w.heap.size r t u n c) (ht : IsRows w w.heap.size tv T) (hl : IsInts w w.heap.size lv L) (hk : ¬ fitsErr c T L = 0) :
    Calls Try.prog 72 #[.agg #[r, t, u, n], .agg #[tv, lv]] w fun e w' => e = .returned (.tuple #[.bool false, .int .i64 (fitsErr c T L)]) ∧ Below w.heap.size w w' := by
  have hBW : Below w.heap.size w ((w.alloc (.cells #[r, t, u, n] 26)).alloc (.cells #[tv, lv] 55)) := ((Below.refl w.heap.size w).alloc (Nat.le_refl _) _).alloc (by simp) _
  have hcA := hc.on hBW
  have hx : ((w.alloc (.cells #[r, t, u, n] 26)).alloc (.cells #[tv, lv] 55)).heap[w.heap.size]? = some (.cells #[r, t, u, n] 26 (0, 0)) := keep _ (blk _ _ _ _ rfl)
  have hy : ((w.alloc (.cells #[r, t, u, n] 26)).alloc (.cells #[tv, lv] 55)).heap[w.heap.size + 1]? = some (.cells #[tv, lv] 55 (0, 0)) := blk _ _ _ _ (by simp)
  obtain ⟨hr, htr, hu, hn⟩ := hc
  obtain ⟨ar, cr, rfl, _⟩ := hr.open
  obtain ⟨at_, ct, rfl, _⟩ := htr.open
  obtain ⟨au, cu, rfl, _⟩ := hu.open
  obtain ⟨an, cn, rfl, _⟩ := hn.open
  obtain ⟨aT, qT, rfl, _, T140, _⟩ := ht.open
  obtain ⟨aL, qL, rfl, _, L140, _⟩ := hl.open
  have HB := Lib.hid hBW; have HX := Lib.hid hx; have HY := Lib.hid hy; have HC := Lib.hid hcA; have HT := Lib.hid ht; have HK := Lib.hid hk
  clear hr htr hu hn hl ht hBW hx hy hcA hk
  rcases fitsErr_cases c T L with ⟨q, e⟩ | ⟨q, q1, e⟩ | ⟨q, q1, q2, e⟩ | ⟨q, q1, q2, q3, e⟩ | ⟨q, q1, q2, q3, e⟩
  · rw [e]
    have HCK := Lib.hid (opened_bad c _ _ _ _ _ HC.out q)
    have hk1 : (checkC c == 0) = false := by simpa using q
    have hk2 : (checkC c != 0) = true := by simp [bne, hk1]
    have hblk := HX.out
    clear q e HK
    go_enter Try.func72, Try.ntmps72
    go_wp2_with fail
    refine HCK.out.mono ?_
    rintro e w1 ⟨rfl, hb1⟩
    obtain ⟨x0, x1, x2, x3⟩ := four_at (blk_on HX.out hb1)
    have H1 := Lib.hid hb1
    clear hb1 hblk
    go_wp2_with fail
    go_ret2
    exact ⟨rfl, (HB.out.trans (H1.out.mono HB.out.size)).alloc (Nat.le_trans HB.out.size H1.out.size) _⟩
  · rw [e]
    have HCK := Lib.hid (opened_ok c _ _ _ _ _ HC.out q)
    have ok := okCol_of q
    have o1 := ok.houses.1; have o2 := ok.houses.2; have o3 := ok.nights
    obtain ⟨M, hM⟩ : ∃ M : Nat, c.rooms.length * c.nights.length = M := ⟨_, rfl⟩
    have hmul : (c.rooms.length : Int) * (c.nights.length : Int) = (M : Int) := by rw [← hM]; simp
    have hM36 : M ≤ 36 := by rw [← hM]; exact Nat.mul_le_mul o2 o3
    rw [hM] at q1
    have d1 : ((T.length : Int) != (M : Int)) = true := by simp; omega
    have d2 : (T.length != M) = true := by simpa using q1
    clear q e HK q1 hM ok
    go_enter Try.func72, Try.ntmps72
    go_wp2_with fail
    refine HCK.out.mono ?_
    rintro e w1 ⟨p, rfl, hb1, hd⟩
    obtain ⟨x0, x1, x2, x3⟩ := four_at (keep (.cells #[.int .i64 c.rooms.length] 3) (blk_on HX.out hb1))
    obtain ⟨y0, y1⟩ := truth_at (keep (.cells #[.int .i64 c.rooms.length] 3) (blk_on HY.out hb1))
    obtain ⟨z0, z1, z2, z3⟩ := four_at (blk_on HX.out hb1)
    have H1 := Lib.hid hb1
    clear hb1 hd
    go_wp2_with fail
    go_ret2
    exact ⟨rfl, (HB.out.trans (H1.out.mono HB.out.size)).alloc (Nat.le_trans HB.out.size H1.out.size) _⟩
  · rw [e]
    have HCK := Lib.hid (opened_ok c _ _ _ _ _ HC.out q)
    have ok := okCol_of q
    have o1 := ok.houses.1; have o2 := ok.houses.2; have o3 := ok.nights
    obtain ⟨M, hM⟩ : ∃ M : Nat, c.rooms.length * c.nights.length = M := ⟨_, rfl⟩
    have hmul : (c.rooms.length : Int) * (c.nights.length : Int) = (M : Int) := by rw [← hM]; simp
    have hM36 : M ≤ 36 := by rw [← hM]; exact Nat.mul_le_mul o2 o3
    rw [hM] at q1
    have d1 : ((T.length : Int) != (M : Int)) = false := by simp; omega
    have d2 : (T.length != M) = false := by simpa using q1
    have d3 : ((L.length : Int) != (c.rooms.length : Int)) = true := by simp; omega
    have d4 : (L.length != c.rooms.length) = true := by simpa using q2
    clear q e HK q1 q2 hM ok
    go_enter Try.func72, Try.ntmps72
    go_wp2_with fail
    refine HCK.out.mono ?_
    rintro e w1 ⟨p, rfl, hb1, hd⟩
    obtain ⟨x0, x1, x2, x3⟩ := four_at (keep (.cells #[.int .i64 c.rooms.length] 3) (blk_on HX.out hb1))
    obtain ⟨y0, y1⟩ := truth_at (keep (.cells #[.int .i64 c.rooms.length] 3) (blk_on HY.out hb1))
    obtain ⟨z0, z1, z2, z3⟩ := four_at (blk_on HX.out hb1)
    have H1 := Lib.hid hb1
    clear hb1 hd
    go_wp2_with fail
    go_ret2
    exact ⟨rfl, (HB.out.trans (H1.out.mono HB.out.size)).alloc (Nat.le_trans HB.out.size H1.out.size) _⟩
  · rw [e]
    have HCK := Lib.hid (opened_ok c _ _ _ _ _ HC.out q)
    have ok := okCol_of q
    have o1 := ok.houses.1; have o2 := ok.houses.2; have o3 := ok.nights
    obtain ⟨M, hM⟩ : ∃ M : Nat, c.rooms.length * c.nights.length = M := ⟨_, rfl⟩
    have hmul : (c.rooms.length : Int) * (c.nights.length : Int) = (M : Int) := by rw [← hM]; simp
    have hM36 : M ≤ 36 := by rw [← hM]; exact Nat.mul_le_mul o2 o3
    rw [hM] at q1
    have HQ3 := Lib.hid q3
    have d1 : ((T.length : Int) != (M : Int)) = false := by simp; omega
    have d2 : (T.length != M) = false := by simpa using q1
    have d3 : ((L.length : Int) != (c.rooms.length : Int)) = false := by simp; omega
    have d4 : (L.length != c.rooms.length) = false := by simpa using q2
    clear q e HK q1 q2 q3 hM ok
    go_enter Try.func72, Try.ntmps72
    go_wp2_with fail
    refine HCK.out.mono ?_
    rintro e w1 ⟨p, rfl, hb1, hd⟩
    obtain ⟨x0, x1, x2, x3⟩ := four_at (keep (.cells #[.int .i64 c.rooms.length] 3) (blk_on HX.out hb1))
    obtain ⟨y0, y1⟩ := truth_at (keep (.cells #[.int .i64 c.rooms.length] 3) (blk_on HY.out hb1))
    obtain ⟨z0, z1, z2, z3⟩ := four_at (blk_on HX.out hb1)
    have hw1 : Below w.heap.size w (w1.alloc (.cells #[.int .i64 c.rooms.length] 3)) := (HB.out.trans (hb1.mono HB.out.size)).alloc (Nat.le_trans HB.out.size hb1.size) _
    have hevery := every_rows (HT.out.on hw1) w1.heap.size c.rooms.length (by simp [go_sem])
    rw [HQ3.out] at hevery
    have HEV := Lib.hid hevery
    have H1 := Lib.hid hw1
    clear hb1 hd hevery hw1
    go_wp2_with fail
    refine HEV.out.mono ?_
    rintro e w2 ⟨rfl, hb2⟩
    go_wp2_with fail
    go_ret2
    exact ⟨rfl, H1.out.trans (hb2.mono H1.out.size)⟩
  · exact absurd e HK.out
end Go.Proofs.Ytnhifinfjfpoiaa

namespace Go.Proofs.Ytnhifinfjfpoiaa
open Go.RowKit
set_option linter.unusedVariables false
set_option linter.unusedSimpArgs false
attribute [local go_sem] Oper.semAt_some

theorem IsInts.kept {w w' : World} {g B : Nat} {v : Value} {xs : List Int} (h : IsInts w B v xs) (hk : Kept g g g w w') (hg : B ≤ g) (hB : B ≤ w.heap.size) : IsInts w' B v xs := by
  obtain ⟨⟨a, cap, hv, h1, h2, h3⟩, h4⟩ := h
  refine ⟨⟨a, cap, hv, h1, h2, ?_⟩, h4⟩
  rcases h3 with h3 | ⟨b, off, ha, hlt, hc⟩
  · exact .inl h3
  · refine .inr ⟨b, off, ha, hlt, fun j hj => ?_⟩
    have hne : b ≠ g := by omega
    exact (hk.cell (p := ⟨b, off + j, none⟩) (Nat.lt_of_lt_of_le hlt hB) hne hne hne).trans (hc j hj)
abbrev BoxF (g : Nat) (W7 : World) (pt b o nb : Nat) (tv rv : Value) (x f : Int) (W : World) : Prop :=
  W.cell? ⟨pt, 0, none⟩ = some tv ∧ W.cell? ⟨b, o, none⟩ = some rv ∧ W.cell? ⟨nb, 0, none⟩ = some (.int .i64 x) ∧ W.cell? ⟨nb, 1, none⟩ = some (.int .i64 f) ∧ Hid (Kept g g g W7 W)
theorem BoxF.of {g : Nat} {W7 W : World} {pt b o nb : Nat} {tv rv : Value} {x f : Int} (h0 : W7.cell? ⟨pt, 0, none⟩ = some tv) (h1 : W7.cell? ⟨b, o, none⟩ = some rv) (h2 : W7.cell? ⟨nb, 0, none⟩ = some (.int .i64 x)) (h3 : W7.cell? ⟨nb, 1, none⟩ = some (.int .i64 f))
    (n0 : pt ≠ g) (n1 : b ≠ g) (n2 : nb ≠ g) (hk : Kept g g g W7 W) : BoxF g W7 pt b o nb tv rv x f W :=
  ⟨(hk.cell (p := ⟨pt, 0, none⟩) (block_lt_of_cell h0) n0 n0 n0).trans h0, (hk.cell (p := ⟨b, o, none⟩) (block_lt_of_cell h1) n1 n1 n1).trans h1, (hk.cell (p := ⟨nb, 0, none⟩) (block_lt_of_cell h2) n2 n2 n2).trans h2, (hk.cell (p := ⟨nb, 1, none⟩) (block_lt_of_cell h3) n2 n2 n2).trans h3, hk⟩
theorem row_cases (l : List Int) (rm : Nat → Int) (f n : Nat) : (∀ j, j < n → takeOk l rm f j) ∨ ∃ j, j < n ∧ ¬ takeOk l rm f j := by
  by_cases h : ∃ j, j < n ∧ ¬ takeOk l rm f j
  · exact .inr h
  · exact .inl fun j hj => Classical.byContradiction fun hc => h ⟨j, hj, hc⟩

set_option maxRecDepth 100000 in
set_option maxHeartbeats 8000000 in
theorem Fits_ok (c : Col) (r t u n tv lv : Value) (T : List (List Int)) (L : List Int) (w : World) (hc : ColAt w w.heap.size r t u n c) (ht : IsRows w w.heap.size tv T) (hl : IsInts w w.heap.size lv L) (hk : fitsErr c T L = 0) :
    Calls Try.prog 72 #[.agg #[r, t, u, n], .agg #[tv, lv]] w fun e w' => ∃ b, e = .returned (.tuple #[.bool b, .int .i64 0]) ∧ (b = true ↔ FitsP c T L) ∧ Below w.heap.size w w' := by
  have hBW : Below w.heap.size w ((w.alloc (.cells #[r, t, u, n] 26)).alloc (.cells #[tv, lv] 55)) := ((Below.refl w.heap.size w).alloc (Nat.le_refl _) _).alloc (by simp) _
  have hcA := hc.on hBW
  have hx : ((w.alloc (.cells #[r, t, u, n] 26)).alloc (.cells #[tv, lv] 55)).heap[w.heap.size]? = some (.cells #[r, t, u, n] 26 (0, 0)) := keep _ (blk _ _ _ _ rfl)
  have hy : ((w.alloc (.cells #[r, t, u, n] 26)).alloc (.cells #[tv, lv] 55)).heap[w.heap.size + 1]? = some (.cells #[tv, lv] 55 (0, 0)) := blk _ _ _ _ (by simp)
  obtain ⟨hr, htr, hu, hn⟩ := hc
  have HRI := Lib.hid hr
  obtain ⟨ar, cr, rfl, _⟩ := hr.open
  obtain ⟨at_, ct, rfl, _⟩ := htr.open
  obtain ⟨au, cu, rfl, _⟩ := hu.open
  obtain ⟨an, cn, rfl, _⟩ := hn.open
  obtain ⟨aT, qT, rfl, _, T140, T3⟩ := ht.open
  obtain ⟨aL, qL, rfl, _, L140, _⟩ := hl.open
  have HB := Lib.hid hBW; have HX := Lib.hid hx; have HY := Lib.hid hy; have HC := Lib.hid hcA; have HT := Lib.hid ht; have HL := Lib.hid hl; have HT3 := Lib.hid T3
  clear hr htr hu hn hl ht hBW hx hy hcA T3
  rcases fitsErr_cases c T L with ⟨q, e⟩ | ⟨q, q1, e⟩ | ⟨q, q1, q2, e⟩ | ⟨q, q1, q2, q3, e⟩ | ⟨q, q1, q2, q3, e⟩
  · exact absurd (e.symm.trans hk) q
  · exact absurd (e.symm.trans hk) (by decide)
  · exact absurd (e.symm.trans hk) (by decide)
  · exact absurd (e.symm.trans hk) (by decide)
  · have HCK := Lib.hid (opened_ok c _ _ _ _ _ HC.out q)
    have ok := okCol_of q
    have o1 := ok.houses.1; have o2 := ok.houses.2; have o3 := ok.nights
    obtain ⟨M, hM⟩ : ∃ M : Nat, c.rooms.length * c.nights.length = M := ⟨_, rfl⟩
    have hmul : (c.rooms.length : Int) * (c.nights.length : Int) = (M : Int) := by rw [← hM]; simp
    have hM36 : M ≤ 36 := by rw [← hM]; exact Nat.mul_le_mul o2 o3
    have hKM : (needsC c).length = M := by rw [needsC_mul, hM]
    rw [hM] at q1
    have d1 : ((T.length : Int) != (M : Int)) = false := by simp; omega
    have d2 : (T.length != M) = false := by simpa using q1
    have d3 : ((L.length : Int) != (c.rooms.length : Int)) = false := by simp; omega
    have d4 : (L.length != c.rooms.length) = false := by simpa using q2
    have HQ3 := Lib.hid q3
    have HOK := Lib.hid ok
    have HTM := Lib.hid (And.intro q1 q2)
    have HKM := Lib.hid hKM
    clear q e hk q1 q2 q3 hM ok hKM
    go_enter Try.func72, Try.ntmps72
    go_wp2_with fail
    refine HCK.out.mono ?_
    rintro e w1 ⟨p, rfl, hb1, hd⟩
    obtain ⟨x0, x1, x2, x3⟩ := four_at (keep (.cells #[.int .i64 c.rooms.length] 3) (blk_on HX.out hb1))
    obtain ⟨y0, y1⟩ := truth_at (keep (.cells #[.int .i64 c.rooms.length] 3) (blk_on HY.out hb1))
    obtain ⟨z0, z1, z2, z3⟩ := four_at (blk_on HX.out hb1)
    have hw1 : Below w.heap.size w (w1.alloc (.cells #[.int .i64 c.rooms.length] 3)) := (HB.out.trans (hb1.mono HB.out.size)).alloc (Nat.le_trans HB.out.size hb1.size) _
    have hevery := every_rows (HT.out.on hw1) w1.heap.size c.rooms.length (by simp [go_sem])
    rw [HQ3.out] at hevery
    have HEV := Lib.hid hevery
    have H1 := Lib.hid (And.intro hw1 (And.intro hb1 hd))
    clear hb1 hd hevery hw1
    go_wp2_with fail
    refine HEV.out.mono ?_
    rintro e w2 ⟨rfl, hb2⟩
    have hb12 : Below w1.heap.size w1 w2 := ((Below.refl _ _).alloc (Nat.le_refl _) _).trans (hb2.mono (by simp))
    have hw2 : Below w.heap.size w w2 := H1.out.1.trans (hb2.mono H1.out.1.size)
    have hx2 := blk_on (blk_on HX.out H1.out.2.1) hb12
    have hy2 := blk_on (blk_on HY.out H1.out.2.1) hb12
    have H2 := Lib.hid (And.intro hw2 (And.intro hb12 (And.intro (H1.out.2.2.below hb12) (And.intro hx2 hy2))))
    clear x0 x1 x2 x3 y0 y1 z0 z1 z2 z3 hb2 hb12 hw2 hx2 hy2 HEV HCK
    obtain ⟨x0, x1, x2, x3⟩ := four_at H2.out.2.2.2.1
    have HCL := Lib.hid (clone_any c.rooms _ w2 (HRI.out.on H2.out.1) (by omega) (by omega))
    go_wp2_with fail
    refine HCL.out.mono ?_
    rintro e w3 ⟨g, qg, rfl, hown, hb3, hg3⟩
    have hroom := RoomAt.of_owns hown rfl
    have hgge : w2.heap.size ≤ g := (hown.lt g rfl).1
    have hb34 : Below w2.heap.size w2 (w3.alloc (.cells #[.slice (some ⟨g, 0, none⟩) c.rooms.length qg] 22)) := hb3.alloc hb3.size _
    have HCA := Lib.hid (caught_any c p _ (H2.out.2.2.1.below hb34))
    have hroom4 := hroom.below ((Below.refl w3.heap.size w3).alloc (Nat.le_refl _) (.cells #[.slice (some ⟨g, 0, none⟩) c.rooms.length qg] 22)) (Nat.le_refl _)
    have hbox4 : (w3.alloc (.cells #[.slice (some ⟨g, 0, none⟩) c.rooms.length qg] 22)).heap[w3.heap.size]? = some (.cells #[.slice (some ⟨g, 0, none⟩) c.rooms.length qg] 22 (0, 0)) := heap_alloc_new _ _
    have hgb : g ≠ w3.heap.size := by omega
    have H4 := Lib.hid (And.intro hb34 (And.intro hroom4 (And.intro hbox4 (And.intro hgge (And.intro hgb hg3)))))
    clear hown hb3 hg3 hroom hgge hb34 hroom4 hbox4 hgb HCL x0 x1 x2 x3
    go_wp2_with (go_at_call 113; refine HCA.out.mono ?_; rintro e w5 ⟨v, rfl, hown5, hb5⟩; obtain ⟨a5, q5, rfl⟩ := owns_slice hown5; have H5 := Lib.hid (And.intro hown5 hb5); clear hown5 hb5)
    have hn5 := pairs_of_owns H5.out.1 (needsC_i64 HOK.out) (by have := needsC_len HOK.out; omega)
    obtain ⟨a5', q5', e5, _, _, n3⟩ := hn5.open
    cases e5
    have hfin : Below w.heap.size w w5 := by
      have h1 := H2.out.1
      have h2 := h1.trans (H4.out.1.mono h1.size)
      exact h2.trans (H5.out.2.mono h2.size)
    have hg5 : g < w5.heap.size := by have := H5.out.2.size; have := H4.out.2.2.2.2.2; simp at *; omega
    have hroom5 := H4.out.2.1.below H5.out.2 (Nat.le_refl _)
    have hbox5 := blk_on H4.out.2.2.1 H5.out.2
    have hb25 : Below w2.heap.size w2 w5 := H4.out.1.trans (H5.out.2.mono H4.out.1.size)
    have hy5 := blk_on H2.out.2.2.2.2 hb25
    have hN3 : ∀ i, i < (needsC c).length → ∃ b off, a5 = some ⟨b, off, none⟩ ∧ b < w5.heap.size ∧ b ≠ g ∧ w5.cell? ⟨b, off + i * 2, none⟩ = some (.int .i64 (nthP (needsC c) i).1) ∧ w5.cell? ⟨b, off + i * 2 + 1, none⟩ = some (.int .i64 (nthP (needsC c) i).2) := fun i hi => by
      obtain ⟨b, off, ha, h1, h2, h3⟩ := n3 i hi
      subst ha
      have := owns_ne H5.out.1
      have := H4.out.2.2.2.2.2
      exact ⟨b, off, rfl, h1, by simp at *; omega, h2, h3⟩
    have HN3 := Lib.hid hN3
    have HF := Lib.hid (And.intro hfin (And.intro hg5 (And.intro hroom5 (And.intro hbox5 (And.intro hb25 hy5)))))
    have hgw : w2.heap.size ≤ g := H4.out.2.2.2.1
    have hg3 : g ≠ w3.heap.size := H4.out.2.2.2.2.1
    have hs12 := H2.out.2.1.size
    have hy2 := (Array.getElem?_eq_some_iff.1 H2.out.2.2.2.2).1
    have hws := H2.out.1.size
    have hw25 := hb25.size
    have HGS := Lib.hid (And.intro hgw (And.intro hg3 (And.intro hs12 (And.intro hy2 (And.intro hws hw25)))))
    rw [HKM.out]
    clear hn5 n3 hfin hg5 hroom5 hbox5 hb25 hN3 hy5 hgw hg3 hs12 hy2 hws hw25
    go_loopw [56] (fun i wr => ∃ k : Nat, k ≤ M ∧ i = .int .i64 k ∧ Hid ((∀ j, j < k → rowOk c T j) ∧ RoomAt wr g c.rooms.length qg (rmTo c T k) ∧ Kept g g g w5 wr)) (fun i _ => M - (intOf i).toNat)
    case atStart => exact ⟨0, Nat.zero_le _, rfl, fun j hj => (by omega), HF.out.2.2.1.same (fun j hj => by simp [rmTo, sumN]), Kept.refl _ _ _ _⟩
    case round =>
      obtain ⟨k, hk, rfl, HR⟩ := hrel
      obtain ⟨hgw, hg3, hs12, hy2, hws, hw25⟩ := HGS.out
      have hny : w.heap.size + 1 ≠ g := by omega
      have HLG : Hid (w.heap.size ≤ g) := Lib.hid (Nat.le_trans hws hgw)
      have hry : wr.heap[w.heap.size + 1]? = some (.cells #[.slice aT T.length qT, .slice aL L.length qL] 55 (0, 0)) := (HR.out.2.2.block _ (by omega) hny hny hny).trans HF.out.2.2.2.2.2
      have hrb := (HR.out.2.2.block _ (by have := (Array.getElem?_eq_some_iff.1 HF.out.2.2.2.1).1; exact this) hg3.symm hg3.symm hg3.symm).trans HF.out.2.2.2.1
      have hbwr : Below w2.heap.size w2 wr := HF.out.2.2.2.2.1.trans (HR.out.2.2.below hw25 hgw hgw hgw)
      have hT := HT.out.on H2.out.1
      have hwwr : Below w.heap.size w wr := H2.out.1.trans (hbwr.mono hws)
      by_cases hlt : k < M
      · have hki : (k : Int) < M := by omega
        have hkT : k < T.length := by rw [HTM.out.1]; exact hlt
        have hkTi : (k : Int) < T.length := by omega
        have hkK : k < (needsC c).length := by rw [HKM.out]; exact hlt
        obtain ⟨bn, offn, rfl, hbn, hbg, m1, m2⟩ := HN3.out k hkK
        have d5 := (HR.out.2.2.cell (p := ⟨bn, offn + k * 2, none⟩) hbn hbg hbg hbg).trans m1
        have d6 := (HR.out.2.2.cell (p := ⟨bn, offn + k * 2 + 1, none⟩) hbn hbg hbg hbg).trans m2
        obtain ⟨f1, f2⟩ := needs_frm o2 k hkK
        rw [f1] at d6
        obtain ⟨F, hF⟩ : ∃ F, frm (needsC c) k = F := ⟨_, rfl⟩
        obtain ⟨R, hR⟩ : ∃ R, (nthP (needsC c) k).1 = R := ⟨_, rfl⟩
        rw [hF] at d6 f2
        rw [hR] at d5
        obtain ⟨bT, oT, uT, rfl, hbT, m3, hrow⟩ := HT3.out k hkT
        have hlen : (nthR T k).length = c.rooms.length := by have := allB_iff.1 HQ3.out k hkT; simpa using this
        obtain ⟨aR, qR, e6, _, _, _⟩ := hrow.open
        rw [hlen] at e6
        subst e6
        have m3' := (hwwr.cell (p := ⟨bT, oT + k, none⟩) hbT).trans m3
        have hrow2 := hrow.on H2.out.1
        have hrowr : IsInts wr w2.heap.size (.slice aR c.rooms.length qR) (nthR T k) := hrow2.below hbwr (Nat.le_refl _)
        obtain ⟨W7, hW7⟩ : ∃ W7, wr.alloc (.cells #[.int .i64 R, .int .i64 F] 154) = W7 := ⟨_, rfl⟩
        have hk7 : Kept g g g wr W7 := by rw [← hW7]; exact Kept.of ((Below.refl _ _).alloc (Nat.le_refl _) _)
        have hb7 : Below wr.heap.size wr W7 := by rw [← hW7]; exact (Below.refl _ _).alloc (Nat.le_refl _) _
        have hn7 : W7.heap[wr.heap.size]? = some (.cells #[.int .i64 R, .int .i64 F] 154 (0, 0)) := by rw [← hW7]; exact heap_alloc_new _ _
        have hroom7 := HR.out.2.1.below hb7 (Nat.le_refl _)
        have hrm := rmTo_bounds HOK.out HR.out.1
        have hgr : g < wr.heap.size := HR.out.2.1.lt
        obtain ⟨t0, t1⟩ := truth_at (blk_on hry hb7)
        have t2 := (hb7.cell (p := ⟨bT, oT + k, none⟩) (Nat.lt_of_lt_of_le hbT hwwr.size)).trans m3'
        obtain ⟨t3, t4⟩ := truth_at hn7
        have t5 := (cell_of_row W7 _ 0 _ _ _ (blk_on hrb hb7)).trans rfl
        have hnb : wr.heap.size ≠ g := by omega
        have hnT : bT ≠ g := by omega
        have HPQ : Hid (∀ W, Hid (Kept g g g W7 W) → BoxF g W7 (w.heap.size + 1) bT (oT + k) wr.heap.size (.slice (some ⟨bT, oT, none⟩) T.length qT) (.slice aR c.rooms.length qR) R F W) := fun W h => BoxF.of t0 t2 t3 t4 hny hnT hnb h.out
        have hP : W7.drew.cell? ⟨w.heap.size + 1, 0, none⟩ = some (.slice (some ⟨bT, oT, none⟩) T.length qT) ∧ W7.drew.cell? ⟨bT, oT + k, none⟩ = some (.slice aR c.rooms.length qR) ∧ W7.drew.cell? ⟨wr.heap.size, 0, none⟩ = some (.int .i64 R) ∧ W7.drew.cell? ⟨wr.heap.size, 1, none⟩ = some (.int .i64 F) ∧ Hid (Kept g g g W7 W7.drew) := HPQ.out _ (Kept.refl _ _ _ _).drew
        have hrow7 : IsInts W7.drew w2.heap.size (.slice aR c.rooms.length qR) (nthR T k) := (hrowr.below hb7 (by have := hbwr.size; omega)).kept (Kept.refl g g g W7).drew hgw (by have := hbwr.size; have := hb7.size; omega)
        have htk := takes_any (nthR T k) (.slice aR c.rooms.length qR) F w3.heap.size g c.rooms.length qg w2.heap.size (rmTo c T k) W7.drew hrow7 hgw hlen o2 f2 hg3.symm (by omega) t5 hroom7 hrm
        have HTK := Lib.hid htk
        have hrk : rowOk c T k ↔ ((∀ j, j < c.rooms.length → takeOk (nthR T k) (rmTo c T k) F j) ∧ sumN (nth (nthR T k)) c.rooms.length = R) := by unfold rowOk; rw [hF, hR]
        have HRK := Lib.hid hrk
        have hFT := fits_no_row (c := c) (T := T) (L := L) hkK
        rw [hF] at hFT
        have HFT := Lib.hid hFT
        have hRT : FitsP c T L → sumN (nth (nthR T k)) c.rooms.length = R := fun h => by rw [← hR]; exact h.row k hkK
        have HRT := Lib.hid hRT
        have HSZ := Lib.hid (And.intro hwwr (And.intro hk7 (And.intro hrowr (And.intro hb7 hbwr))))
        have HLE := Lib.hid hlen
        have HRM := Lib.hid hrm
        rcases row_cases (nthR T k) (rmTo c T k) F c.rooms.length with hall | hno
        · have hsb : ∀ i, i < (nthR T k).length → 0 ≤ nth (nthR T k) i ∧ nth (nthR T k) i ≤ 1000 := fun i hi => by
            rw [hlen] at hi
            have h1 := hall i hi
            have h2 := hrm i hi
            exact ⟨h1.1, by have := h1.2.1; omega⟩
          have HSM : Hid (∀ W, Hid (Kept g g g W7 W) → Calls Try.prog 112 #[.slice aR c.rooms.length qR] W fun e w' => e = .returned (.int .i64 (sumN (nth (nthR T k)) c.rooms.length)) ∧ W = w') := fun W h => by
            have h1 := (hrowr.below hb7 (by have := hbwr.size; omega)).kept h.out hgw (by have := hbwr.size; have := hb7.size; omega)
            have h2 := sum_any (nthR T k) _ W (h1.mono (by have := h.out.size; have := hbwr.size; have := hb7.size; omega)) (by omega) hsb
            rw [hlen] at h2; exact h2
          have HALL := Lib.hid hall
          have HT1 : Hid (Calls Try.prog 132 #[.slice aR c.rooms.length qR, .int .i64 F, .pointer (some ⟨w3.heap.size, 0, none⟩)] W7.drew fun e w' => e = .returned (.bool true) ∧ Hid (RoomAt w' g c.rooms.length qg (fun j => rmTo c T k j - nth (nthR T k) j)) ∧ Hid (Kept g g g W7 w')) := HTK.out.mono fun e w' h => ⟨(h.1 HALL.out).1, (h.1 HALL.out).2, (Kept.refl g g g W7).drew.trans h.2.2⟩
          obtain ⟨S, hS⟩ : ∃ S, sumN (nth (nthR T k)) c.rooms.length = S := ⟨_, rfl⟩
          have HS := Lib.hid hS
          rw [hS] at HSM
          clear hgw hg3 hs12 hy2 hws hw25 hny hry hrb hbwr hT hwwr m1 m2 m3 f1 f2 hF hR hrow hlen m3' hrow2 hrowr hk7 hb7 hn7 hroom7 hrm hgr t0 t1 t2 t3 t4 t5 hnb hnT hrow7 htk hrk hFT hRT hall hsb hS HTK
          go_upto_region 12 with (fail)
          clear hW7 d5 d6
          go_region_held3 (fun w' => w'.cell? ⟨w.heap.size + 1, 0, none⟩ = some (.slice (some ⟨bT, oT, none⟩) T.length qT) ∧ w'.cell? ⟨bT, oT + k, none⟩ = some (.slice aR c.rooms.length qR) ∧ w'.cell? ⟨wr.heap.size, 0, none⟩ = some (.int .i64 R) ∧ w'.cell? ⟨wr.heap.size, 1, none⟩ = some (.int .i64 F) ∧ Hid (Kept g g g W7 w')) (first | with_reducible assumption | with_reducible exact HPQ.out _ hk8 | fail) (first | (go_at_call 132; (with_reducible refine HT1.out.mono ?_); rintro e w8 ⟨rfl, hr8, hk8⟩) | (go_at_call 112; (with_reducible refine (HSM.out _ hk8).mono ?_); rintro e w9 ⟨rfl, rfl⟩) | fail)
          have HAF := Lib.hid (And.intro hr8 hk8)
          clear hr8 hk8 hP HPQ HSM HT1
          by_cases hSR : S = R
          · have g1 : (S != R) = false := by simpa using hSR
            have HSR := Lib.hid (HS.out.trans hSR)
            clear hSR
            go_wp2_with fail
            go_roundw
            case rel =>
              refine ⟨k + 1, by omega, by go_num, fun j hj => ?_, HAF.out.1.same fun j hj => ?_, HR.out.2.2.trans (HSZ.out.2.1.trans HAF.out.2)⟩
              · by_cases ej : j = k
                · rw [ej]; exact HRK.out.2 ⟨HALL.out, HSR.out⟩
                · exact HR.out.1 j (by omega)
              · unfold rmTo; rw [sumN_succ]; omega
            case measure => simp [intOf]; omega
          · have g1 : (S != R) = true := by simpa using hSR
            have HSR := Lib.hid (fun h : sumN (nth (nthR T k)) c.rooms.length = R => hSR (HS.out.symm.trans h))
            clear hSR
            have HKB := Lib.hid (HSZ.out.1.trans ((HSZ.out.2.1.trans HAF.out.2).below HSZ.out.1.size HLG.out HLG.out HLG.out))
            go_wp2_with fail
            go_ret2
            exact ⟨false, rfl, ⟨fun h => (by cases h), fun h => absurd (HRT.out h) HSR.out⟩, HKB.out⟩
        · have HT1 : Hid (Calls Try.prog 132 #[.slice aR c.rooms.length qR, .int .i64 F, .pointer (some ⟨w3.heap.size, 0, none⟩)] W7.drew fun e w' => e = .returned (.bool false) ∧ Hid (Kept g g g W7 w')) := HTK.out.mono fun e w' h => ⟨h.2.1 hno, (Kept.refl g g g W7).drew.trans h.2.2⟩
          have HNF := Lib.hid (HFT.out hno)
          clear hgw hg3 hs12 hy2 hws hw25 hny hry hrb hbwr hT hwwr m1 m2 m3 f1 f2 hF hR hrow hlen m3' hrow2 hrowr hk7 hb7 hn7 hroom7 hrm hgr t0 t1 t2 t3 t4 t5 hnb hnT hrow7 htk hrk hFT hRT hno HTK
          go_upto_region 12 with (fail)
          clear hW7 d5 d6
          refine wp_region_noPanic ?_
          refine wp_region_held_drew (S := (fun w' => w'.cell? ⟨w.heap.size + 1, 0, none⟩ = some (.slice (some ⟨bT, oT, none⟩) T.length qT) ∧ w'.cell? ⟨bT, oT + k, none⟩ = some (.slice aR c.rooms.length qR) ∧ w'.cell? ⟨wr.heap.size, 0, none⟩ = some (.int .i64 R) ∧ w'.cell? ⟨wr.heap.size, 1, none⟩ = some (.int .i64 F) ∧ Hid (Kept g g g W7 w'))) (by kernel_rfl) hP (fun hHeld => ?_)
          refine takeH (i := 0) (d := 61) (v := ?_) rfl rfl (by kernel_rfl) (by kernel_rfl) (by kernel_rfl) (fun _ _ _ _ _ h => h) (by rfl) ?_ (by assumption) ?_
          rotate_left
          · intro w hSw
            (try dsimp only at hSw)
            go_simp
            try with_reducible rfl
          (try simp only [Act.put, List.setIfInBounds_toArray, List.set_cons_zero, List.set_cons_succ])
          refine takeH (i := 1) (d := 62) (v := ?_) rfl rfl (by kernel_rfl) (by kernel_rfl) (by kernel_rfl) (fun _ _ _ _ _ h => h) (by rfl) ?_ (by assumption) ?_
          rotate_left
          · intro w hSw
            (try dsimp only at hSw)
            go_simp
            try with_reducible rfl
          (try simp only [Act.put, List.setIfInBounds_toArray, List.set_cons_zero, List.set_cons_succ])
          refine takeH (i := 2) (d := 63) (v := ?_) rfl rfl (by kernel_rfl) (by kernel_rfl) (by kernel_rfl) (fun _ _ _ _ _ h => h) (by rfl) ?_ (by assumption) ?_
          rotate_left
          · intro w hSw
            (try dsimp only at hSw)
            go_simp
            try with_reducible rfl
          (try simp only [Act.put, List.setIfInBounds_toArray, List.set_cons_zero, List.set_cons_succ])
          refine takeH (i := 3) (d := 64) (v := ?_) rfl rfl (by kernel_rfl) (by kernel_rfl) (by kernel_rfl) (fun _ _ _ _ _ h => h) (by rfl) ?_ (by assumption) ?_
          rotate_left
          · intro w hSw
            (try dsimp only at hSw)
            go_simp
            try with_reducible rfl
          (try simp only [Act.put, List.setIfInBounds_toArray, List.set_cons_zero, List.set_cons_succ])
          refine takeH (i := 4) (d := 65) (v := ?_) rfl rfl (by kernel_rfl) (by kernel_rfl) (by kernel_rfl) (fun _ _ _ _ _ h => h) (by rfl) ?_ (by assumption) ?_
          rotate_left
          · intro w hSw
            (try dsimp only at hSw)
            go_simp
            try with_reducible rfl
          (try simp only [Act.put, List.setIfInBounds_toArray, List.set_cons_zero, List.set_cons_succ])
          refine takeH (i := 5) (d := 66) (v := ?_) rfl rfl (by kernel_rfl) (by kernel_rfl) (by kernel_rfl) (fun _ _ _ _ _ h => h) (by rfl) ?_ (by assumption) ?_
          rotate_left
          · intro w hSw
            (try dsimp only at hSw)
            go_simp
            try with_reducible rfl
          (try simp only [Act.put, List.setIfInBounds_toArray, List.set_cons_zero, List.set_cons_succ])
          refine takeH (i := 6) (d := 67) (v := ?_) rfl rfl (by kernel_rfl) (by kernel_rfl) (by kernel_rfl) (fun _ _ _ _ _ h => h) (by rfl) ?_ (by assumption) ?_
          rotate_left
          · intro w hSw
            (try dsimp only at hSw)
            go_simp
            try with_reducible rfl
          (try simp only [Act.put, List.setIfInBounds_toArray, List.set_cons_zero, List.set_cons_succ])
          refine takeH (i := 7) (d := 68) (v := ?_) rfl rfl (by kernel_rfl) (by kernel_rfl) (by kernel_rfl) (fun _ _ _ _ _ h => h) (by rfl) ?_ (by assumption) ?_
          rotate_left
          · intro w hSw
            (try dsimp only at hSw)
            go_simp
            try with_reducible rfl
          (try simp only [Act.put, List.setIfInBounds_toArray, List.set_cons_zero, List.set_cons_succ])
          refine wpAnyH_ready (rs := [8]) (by kernel_rfl) (by simp) ?_
          refine AllReadyH.cons rfl (fun K hK => ?_) AllReadyH.nil
          go_simp
          go_at_call 132
          refine HT1.out.mono ?_
          rintro e w8 ⟨rfl, hk8⟩
          go_simp
          refine hK.out _ _ (HPQ.out _ hk8) (fun hHeld => ?_)
          clear hK K
          (try simp only [Act.put, List.setIfInBounds_toArray, List.set_cons_zero, List.set_cons_succ])
          refine takeH (i := 9) (d := 70) (v := ?_) rfl rfl (by kernel_rfl) (by kernel_rfl) (by kernel_rfl) (fun _ _ _ _ _ h => h) (by rfl) ?_ (by assumption) ?_
          rotate_left
          · intro w hSw
            (try dsimp only at hSw)
            go_simp
            try with_reducible rfl
          (try simp only [Act.put, List.setIfInBounds_toArray, List.set_cons_zero, List.set_cons_succ])
          refine takeH (i := 10) (d := 71) (v := ?_) rfl rfl (by kernel_rfl) (by kernel_rfl) (by kernel_rfl) (fun _ _ _ _ _ h => h) (by rfl) ?_ (by assumption) ?_
          rotate_left
          · intro w hSw
            (try dsimp only at hSw)
            go_simp
            try with_reducible rfl
          (try simp only [Act.put, List.setIfInBounds_toArray, List.set_cons_zero, List.set_cons_succ])
          refine skipH (i := 11) (d := 72) rfl rfl (by kernel_rfl) (by kernel_rfl) (by kernel_rfl) (fun _ _ _ _ _ h => h) (by rfl) (by assumption) ?_
          (try simp only [Act.put, List.setIfInBounds_toArray, List.set_cons_zero, List.set_cons_succ])
          refine skipH (i := 12) (d := 73) rfl rfl (by kernel_rfl) (by kernel_rfl) (by kernel_rfl) (fun _ _ _ _ _ h => h) (by rfl) (by assumption) ?_
          (try simp only [Act.put, List.setIfInBounds_toArray, List.set_cons_zero, List.set_cons_succ])
          refine skipH (i := 13) (d := 74) rfl rfl (by kernel_rfl) (by kernel_rfl) (by kernel_rfl) (fun _ _ _ _ _ h => h) (by rfl) (by assumption) ?_
          (try simp only [Act.put, List.setIfInBounds_toArray, List.set_cons_zero, List.set_cons_succ])
          refine skipH (i := 14) (d := 75) rfl rfl (by kernel_rfl) (by kernel_rfl) (by kernel_rfl) (fun _ _ _ _ _ h => h) (by rfl) (by assumption) ?_
          (try simp only [Act.put, List.setIfInBounds_toArray, List.set_cons_zero, List.set_cons_succ])
          refine skipH (i := 15) (d := 76) rfl rfl (by kernel_rfl) (by kernel_rfl) (by kernel_rfl) (fun _ _ _ _ _ h => h) (by rfl) (by assumption) ?_
          (try simp only [Act.put, List.setIfInBounds_toArray, List.set_cons_zero, List.set_cons_succ])
          refine skipH (i := 16) (d := 77) rfl rfl (by kernel_rfl) (by kernel_rfl) (by kernel_rfl) (fun _ _ _ _ _ h => h) (by rfl) (by assumption) ?_
          (try simp only [Act.put, List.setIfInBounds_toArray, List.set_cons_zero, List.set_cons_succ])
          refine skipH (i := 17) (d := 78) rfl rfl (by kernel_rfl) (by kernel_rfl) (by kernel_rfl) (fun _ _ _ _ _ h => h) (by rfl) (by assumption) ?_
          (try simp only [Act.put, List.setIfInBounds_toArray, List.set_cons_zero, List.set_cons_succ])
          refine skipH (i := 18) (d := 79) rfl rfl (by kernel_rfl) (by kernel_rfl) (by kernel_rfl) (fun _ _ _ _ _ h => h) (by rfl) (by assumption) ?_
          (try simp only [Act.put, List.setIfInBounds_toArray, List.set_cons_zero, List.set_cons_succ])
          refine skipH (i := 19) (d := 80) rfl rfl (by kernel_rfl) (by kernel_rfl) (by kernel_rfl) (fun _ _ _ _ _ h => h) (by rfl) (by assumption) ?_
          (try simp only [Act.put, List.setIfInBounds_toArray, List.set_cons_zero, List.set_cons_succ])
          refine takeH (i := 20) (d := 81) (v := ?_) rfl rfl (by kernel_rfl) (by kernel_rfl) (by kernel_rfl) (fun _ _ _ _ _ h => h) (by rfl) ?_ (by assumption) ?_
          rotate_left
          · intro w hSw
            (try dsimp only at hSw)
            go_simp
            try with_reducible rfl
          (try simp only [Act.put, List.setIfInBounds_toArray, List.set_cons_zero, List.set_cons_succ])
          refine wpAnyH_done (by kernel_rfl) ?_ _
          refine NoPanic.normal ?_
          have HKB := Lib.hid (HSZ.out.1.trans ((HSZ.out.2.1.trans hk8.out).below HSZ.out.1.size HLG.out HLG.out HLG.out))
          clear hP HPQ HT1 hk8
          go_wp2_with fail
          go_ret2
          exact ⟨false, rfl, ⟨fun h => (by cases h), fun h => absurd h HNF.out⟩, HKB.out⟩
      · obtain rfl : k = M := by omega
        obtain ⟨_, t1⟩ := truth_at hry
        have hdk := H2.out.2.2.1.below hbwr
        have hul := unionTo_lt (fun j _ => leftC_lt c o2 j) 6 (by omega)
        have HUL : Hid (unionN (leftC c) < 64) := hul
        have hb0 : Hid (Below wr.heap.size wr wr.drew) := (Below.refl _ _).drew
        have HPB : Hid (∀ W, Hid (Below wr.heap.size wr W) → W.cell? ⟨w.heap.size + 1, 1, none⟩ = some (.slice aL L.length qL) ∧ Hid (Kept g g g wr W)) := fun W h => ⟨(h.out.cell (p := ⟨w.heap.size + 1, 1, none⟩) (Array.getElem?_eq_some_iff.1 hry).1).trans t1, Kept.of h.out⟩
        have HPK : Hid (∀ W, Hid (Kept g g g wr W) → W.cell? ⟨w.heap.size + 1, 1, none⟩ = some (.slice aL L.length qL) ∧ Hid (Kept g g g wr W)) := fun W h => ⟨(h.out.cell (p := ⟨w.heap.size + 1, 1, none⟩) (Array.getElem?_eq_some_iff.1 hry).1 hny hny hny).trans t1, h⟩
        have hP : wr.drew.cell? ⟨w.heap.size + 1, 1, none⟩ = some (.slice aL L.length qL) ∧ Hid (Kept g g g wr wr.drew) := HPB.out _ hb0
        have HLF : Hid (Calls Try.prog 98 #[.pointer (some ⟨p, 0, none⟩)] wr.drew fun e w' => e = .returned (.agg (six (leftC c))) ∧ Hid (Below wr.heap.size wr w')) := (left_any c p wr.drew (hdk.below hb0.out)).mono fun _ _ ⟨h1, h2⟩ => ⟨h1, hb0.out.trans (h2.mono hb0.out.size)⟩
        have HUN : Hid (∀ W, Hid (Below wr.heap.size wr W) → Calls Try.prog 109 #[.agg (six (leftC c))] W fun e w' => e = .returned (.int .i64 (unionN (leftC c) : Nat)) ∧ Hid (Below wr.heap.size wr w')) := fun W h => (union_any (leftC c) (fun j _ => leftC_lt c o2 j) W).mono fun _ _ ⟨h1, h2⟩ => ⟨h1, h.out.trans (h2.mono h.out.size)⟩
        have hrm := rmTo_bounds HOK.out HR.out.1
        have t5 := (cell_of_row wr _ 0 _ _ _ hrb).trans rfl
        have hLw : IsInts wr w2.heap.size (.slice aL L.length qL) L := ((HL.out.on H2.out.1).below hbwr (Nat.le_refl _))
        have HTK : Hid (∀ W, Hid (Below wr.heap.size wr W) → Calls Try.prog 132 #[.slice aL L.length qL, .int .i64 (unionN (leftC c) : Nat), .pointer (some ⟨w3.heap.size, 0, none⟩)] W fun e w' => TakesP L (rmTo c T k) (unionN (leftC c)) c.rooms.length g qg W e w') := fun W h =>
          takes_any L (.slice aL L.length qL) (unionN (leftC c)) w3.heap.size g c.rooms.length qg w2.heap.size (rmTo c T k) W (hLw.below h.out (by have := hbwr.size; omega)) hgw HTM.out.2 o2 HUL.out hg3.symm (by omega) ((h.out.cell (p := ⟨w3.heap.size, 0, none⟩) (Array.getElem?_eq_some_iff.1 hrb).1).trans t5) (HR.out.2.1.below h.out (Nat.le_refl _)) hrm
        have HFIN : Hid (∀ W, Hid (Kept g g g wr W) → Below w.heap.size w W) := fun W h => hwwr.trans (h.out.below hwwr.size HLG.out HLG.out HLG.out)
        have HKK := HKM.out
        have HSZ := Lib.hid (And.intro hwwr HR.out.1)
        rcases row_cases L (rmTo c T k) (unionN (leftC c)) c.rooms.length with hall | hno
        · have HT1 : Hid (∀ W, Hid (Below wr.heap.size wr W) → Calls Try.prog 132 #[.slice aL L.length qL, .int .i64 (unionN (leftC c) : Nat), .pointer (some ⟨w3.heap.size, 0, none⟩)] W fun e w' => e = .returned (.bool true) ∧ Hid (Kept g g g wr w')) := fun W h => (HTK.out W h).mono fun e w' k => ⟨(k.1 hall).1, (Kept.of h.out).trans k.2.2⟩
          have HYES : Hid (FitsP c T L) := fits_yes (fun i hi => HR.out.1 i (by omega)) (by rw [HKM.out]; exact hall)
          clear HTK hall hgw hg3 hs12 hy2 hws hw25 hny hry hrb hbwr hT hwwr t1 hdk hul hrm t5 hLw HKK
          go_upto_region 15 with (fail)
          go_region_held3 (fun w' => w'.cell? ⟨w.heap.size + 1, 1, none⟩ = some (.slice aL L.length qL) ∧ Hid (Kept g g g wr w')) (first | with_reducible assumption | with_reducible exact HPB.out _ hb9 | with_reducible exact HPB.out _ hb8 | with_reducible exact HPK.out _ hk10 | fail) (first | (go_at_call 98; (with_reducible refine HLF.out.mono ?_); rintro e w8 ⟨rfl, hb8⟩) | (go_at_call 109; (with_reducible refine (HUN.out _ hb8).mono ?_); rintro e w9 ⟨rfl, hb9⟩) | (go_at_call 132; (with_reducible refine (HT1.out _ hb9).mono ?_); rintro e w10 ⟨rfl, hk10⟩) | fail)
          have HKB := Lib.hid (HFIN.out _ hk10)
          clear hP HPB HPK HLF HUN HT1 HFIN hb0 hb8 hb9 hk10
          go_wp2_with fail
          go_ret2
          exact ⟨true, rfl, ⟨fun _ => HYES.out, fun _ => rfl⟩, HKB.out⟩
        · have HT1 : Hid (∀ W, Hid (Below wr.heap.size wr W) → Calls Try.prog 132 #[.slice aL L.length qL, .int .i64 (unionN (leftC c) : Nat), .pointer (some ⟨w3.heap.size, 0, none⟩)] W fun e w' => e = .returned (.bool false) ∧ Hid (Kept g g g wr w')) := fun W h => (HTK.out W h).mono fun e w' k => ⟨k.2.1 hno, (Kept.of h.out).trans k.2.2⟩
          have HNF : Hid (¬ FitsP c T L) := fits_no_left (by rw [HKM.out]; exact hno)
          clear HTK hno hgw hg3 hs12 hy2 hws hw25 hny hry hrb hbwr hT hwwr t1 hdk hul hrm t5 hLw HKK
          go_upto_region 15 with (fail)
          go_region_held3 (fun w' => w'.cell? ⟨w.heap.size + 1, 1, none⟩ = some (.slice aL L.length qL) ∧ Hid (Kept g g g wr w')) (first | with_reducible assumption | with_reducible exact HPB.out _ hb9 | with_reducible exact HPB.out _ hb8 | with_reducible exact HPK.out _ hk10 | fail) (first | (go_at_call 98; (with_reducible refine HLF.out.mono ?_); rintro e w8 ⟨rfl, hb8⟩) | (go_at_call 109; (with_reducible refine (HUN.out _ hb8).mono ?_); rintro e w9 ⟨rfl, hb9⟩) | (go_at_call 132; (with_reducible refine (HT1.out _ hb9).mono ?_); rintro e w10 ⟨rfl, hk10⟩) | fail)
          have HKB := Lib.hid (HFIN.out _ hk10)
          clear hP HPB HPK HLF HUN HT1 HFIN hb0 hb8 hb9 hk10
          go_wp2_with fail
          go_ret2
          exact ⟨false, rfl, ⟨fun h => (by cases h), fun h => absurd h HNF.out⟩, HKB.out⟩
end Go.Proofs.Ytnhifinfjfpoiaa

namespace Go.Proofs.Ytnhifinfjfpoiaa
open Go.RowKit
set_option linter.unusedVariables false
set_option linter.unusedSimpArgs false

/-- What a cell holds: behind a name, so that the walk's simp does not turn in a circle. -/
def cellOf (w : World) (a : Addr) : Value := (w.cell? a).getD undef
theorem cellOf_some {w : World} {a : Addr} {v : Value} (h : w.cell? a = some v) : w.cell? a = some (cellOf w a) := by unfold cellOf; rw [h]; rfl
theorem owns_set {W : World} {b e sz n : Nat} {v u : Value} {xs : List Value} {p : Addr} (h : W.ownsRow b e sz v n xs) (hp : p.block < b) : (W.setCell p u).ownsRow b e sz v n xs := by
  obtain ⟨hl, h | ⟨g, cap, cur, rfl, hb, hc, hr⟩⟩ := h
  · exact ⟨hl, .inl h⟩
  · exact ⟨hl, .inr ⟨g, cap, cur, rfl, hb, (Below.heap_setCell _ _ _ _ (by omega)).trans hc, hr⟩⟩
theorem owns_base {W : World} {b b' e sz n : Nat} {v : Value} {xs : List Value} (h : W.ownsRow b e sz v n xs) (hp : b' ≤ b) : W.ownsRow b' e sz v n xs := by
  obtain ⟨hl, h | ⟨g, cap, cur, rfl, hb, hc⟩⟩ := h
  · exact ⟨hl, .inl h⟩
  · exact ⟨hl, .inr ⟨g, cap, cur, rfl, by omega, hc⟩⟩
theorem OwnRows.set {W : World} {b : Nat} {v u : Value} {rows : List (List Int)} {p : Addr} (h : OwnRows W b v rows) (hp : p.block < b) : OwnRows (W.setCell p u) b v rows :=
  let ⟨vs, h1, h2⟩ := h; ⟨vs, owns_set h1 hp, fun j hj => owns_set (h2 j hj) hp⟩
theorem OwnRows.base {W : World} {b b' : Nat} {v : Value} {rows : List (List Int)} (h : OwnRows W b v rows) (hp : b' ≤ b) : OwnRows W b' v rows :=
  let ⟨vs, h1, h2⟩ := h; ⟨vs, owns_base h1 hp, fun j hj => owns_base (h2 j hj) hp⟩
theorem OwnRows.drewN {W : World} {b : Nat} {v : Value} {rows : List (List Int)} (h : OwnRows W b v rows) (n : Nat) : OwnRows (W.drewN n) b v rows := h
theorem OwnRows.slice {W : World} {b : Nat} {v : Value} {rows : List (List Int)} (h : OwnRows W b v rows) : ∃ a cap, v = .slice a rows.length cap := let ⟨_, h1, _⟩ := h; owns_slice h1

/-- A colony in memory of its own. -/
structure OwnCol (w : World) (B : Nat) (r t u n : Value) (c : Col) : Prop where
  rooms : w.ownsRow B 3 1 r c.rooms.length (intsV c.rooms)
  traps : w.ownsRow B 3 1 t c.traps.length (intsV c.traps)
  runs : w.ownsRow B 63 2 u c.runs.length (pairsV c.runs)
  nights : OwnRows w B n c.nights
/-- A colony that is no longer than what the laws look at, of numbers that fit. -/
structure Short (c : Col) : Prop where
  rooms : c.rooms.length ≤ 8 ∧ ∀ x ∈ c.rooms, I64 x
  traps : c.traps.length ≤ 8 ∧ ∀ x ∈ c.traps, I64 x
  runs : c.runs.length ≤ 14 ∧ ∀ p ∈ c.runs, I64 p.1 ∧ I64 p.2
  nights : c.nights.length ≤ 8 ∧ ∀ r ∈ c.nights, r.length ≤ 8 ∧ ∀ x ∈ r, I64 x
theorem OwnCol.col {w : World} {B : Nat} {r t u n : Value} {c : Col} (h : OwnCol w B r t u n c) (s : Short c) : ColAt w w.heap.size r t u n c :=
  ⟨nums_of_owns h.rooms s.rooms.2 (by have := s.rooms.1; omega), nums_of_owns h.traps s.traps.2 (by have := s.traps.1; omega), pairs_of_owns h.runs s.runs.2 (by have := s.runs.1; omega), h.nights.rows (by have := s.nights.1; omega) fun r hr => ⟨by have := (s.nights.2 r hr).1; omega, (s.nights.2 r hr).2⟩⟩
theorem OwnCol.below {w w' : World} {B : Nat} {r t u n : Value} {c : Col} (h : OwnCol w B r t u n c) (hb : Below w.heap.size w w') : OwnCol w' B r t u n c :=
  ⟨owns_below h.rooms hb, owns_below h.traps hb, owns_below h.runs hb, h.nights.below hb⟩
theorem OwnCol.base {w : World} {B B' : Nat} {r t u n : Value} {c : Col} (h : OwnCol w B r t u n c) (hB : B' ≤ B) : OwnCol w B' r t u n c :=
  ⟨owns_base h.rooms hB, owns_base h.traps hB, owns_base h.runs hB, h.nights.base hB⟩

/-- What the region keeps: the box a, the block b that is written, and all that stood below b. -/
def BoxS (W0 : World) (a b : Nat) (r t u n : Value) (w' : World) : Prop :=
  w'.cell? ⟨a, 0, none⟩ = some r ∧ w'.cell? ⟨a, 1, none⟩ = some t ∧ w'.cell? ⟨a, 2, none⟩ = some u ∧ w'.cell? ⟨a, 3, none⟩ = some n ∧ w'.cell? ⟨b, 0, none⟩ = some (cellOf w' ⟨b, 0, none⟩) ∧ w'.cell? ⟨b, 1, none⟩ = some (cellOf w' ⟨b, 1, none⟩) ∧ w'.cell? ⟨b, 2, none⟩ = some (cellOf w' ⟨b, 2, none⟩) ∧ w'.cell? ⟨b, 3, none⟩ = some (cellOf w' ⟨b, 3, none⟩) ∧ w'.frozen? ⟨b, 0, none⟩ = false ∧ w'.frozen? ⟨b, 1, none⟩ = false ∧ w'.frozen? ⟨b, 2, none⟩ = false ∧ w'.frozen? ⟨b, 3, none⟩ = false ∧ Hid (Below (b) W0 w')
theorem BoxS.of {W0 : World} {a b ty ty2 : Nat} {r t u n x0 x1 x2 x3 : Value} (h : W0.heap[a]? = some (.cells #[r, t, u, n] ty (0, 0))) (k : W0.heap[b]? = some (.cells #[x0, x1, x2, x3] ty2 (0, 0))) (m : Nat) : BoxS W0 a b r t u n (W0.drewN m) := by
  have c0 := (cell_of_row W0 a 0 _ _ _ h).trans rfl
  have c1 := (cell_of_row W0 a 1 _ _ _ h).trans rfl
  have c2 := (cell_of_row W0 a 2 _ _ _ h).trans rfl
  have c3 := (cell_of_row W0 a 3 _ _ _ h).trans rfl
  have f := fun o => frozen_of_row W0 b o _ _ k
  refine ⟨c0, c1, c2, c3, cellOf_some (w := W0.drewN m) (v := x0) ((cell_of_row W0 b 0 _ _ _ k).trans rfl), cellOf_some (w := W0.drewN m) (v := x1) ((cell_of_row W0 b 1 _ _ _ k).trans rfl), cellOf_some (w := W0.drewN m) (v := x2) ((cell_of_row W0 b 2 _ _ _ k).trans rfl), cellOf_some (w := W0.drewN m) (v := x3) ((cell_of_row W0 b 3 _ _ _ k).trans rfl), f 0, f 1, f 2, f 3, Below.drewN (Below.refl _ _) m⟩
theorem BoxS.below {W0 W W' : World} {a b : Nat} {r t u n : Value} (hab : a < b) (hb : b < W.heap.size) (hB : Below W.heap.size W W') (h : BoxS W0 a b r t u n W) : BoxS W0 a b r t u n W' := by
  obtain ⟨c0, c1, c2, c3, d0, d1, d2, d3, f0, f1, f2, f3, hz⟩ := h
  have ca := fun o => hB.cell (p := ⟨a, o, none⟩) (by simp; omega)
  have cb := fun o => hB.cell (p := ⟨b, o, none⟩) hb
  have fb := fun o => hB.frozen (p := ⟨b, o, none⟩) hb
  exact ⟨(ca 0).trans c0, (ca 1).trans c1, (ca 2).trans c2, (ca 3).trans c3, cellOf_some ((cb 0).trans d0), cellOf_some ((cb 1).trans d1), cellOf_some ((cb 2).trans d2), cellOf_some ((cb 3).trans d3), (fb 0).trans f0, (fb 1).trans f1, (fb 2).trans f2, (fb 3).trans f3, hz.out.trans (hB.mono (Nat.le_of_lt hb))⟩
theorem BoxS.store {W0 W : World} {a b : Nat} {r t u n x0 x1 x2 x3 : Value} (hab : a < b) (h : BoxS W0 a b r t u n W) : BoxS W0 a b r t u n ((((W.setCell ⟨b, 0, none⟩ x0).setCell ⟨b, 1, none⟩ x1).setCell ⟨b, 2, none⟩ x2).setCell ⟨b, 3, none⟩ x3) := by
  obtain ⟨c0, c1, c2, c3, d0, d1, d2, d3, f0, f1, f2, f3, hz⟩ := h
  have hb4 : Below b W ((((W.setCell ⟨b, 0, none⟩ x0).setCell ⟨b, 1, none⟩ x1).setCell ⟨b, 2, none⟩ x2).setCell ⟨b, 3, none⟩ x3) := ((((Below.refl b W).setCell (Nat.le_refl _) _).setCell (Nat.le_refl _) _).setCell (Nat.le_refl _) _).setCell (Nat.le_refl _) _
  have ca := fun o => hb4.cell (p := ⟨a, o, none⟩) hab
  refine ⟨(ca 0).trans c0, (ca 1).trans c1, (ca 2).trans c2, (ca 3).trans c3, cellOf_some (v := x0) (by simp [go_sem, d0, d1, d2, d3]), cellOf_some (v := x1) (by simp [go_sem, d0, d1, d2, d3]), cellOf_some (v := x2) (by simp [go_sem, d0, d1, d2, d3]), cellOf_some (v := x3) (by simp [go_sem, d0, d1, d2, d3]), ?_, ?_, ?_, ?_, hz.out.trans hb4⟩
  all_goals simp [go_sem, *]

set_option maxRecDepth 100000 in
set_option maxHeartbeats 4000000 in
theorem own_any (c : Col) (r t u n : Value) (w : World) (hc : ColAt w w.heap.size r t u n c) (hs : Short c) :
    Calls Try.prog 18 #[.agg #[r, t, u, n]] w fun e w' => ∃ r' t' u' n', e = .returned (.agg #[r', t', u', n']) ∧ OwnCol w' w.heap.size r' t' u' n' c ∧ Below w.heap.size w w' := by
  obtain ⟨hr, htr, hu, hn⟩ := hc
  have HALL := Lib.hid (And.intro hr (And.intro htr (And.intro hu hn)))
  obtain ⟨ar, cr, rfl, _⟩ := hr.open
  obtain ⟨at_, ct, rfl, _⟩ := htr.open
  obtain ⟨au, cu, rfl, _⟩ := hu.open
  obtain ⟨an, cn, rfl, _⟩ := hn.open
  have HSH := Lib.hid hs
  clear hr htr hu hn hs
  go_enter Try.func18, Try.ntmps18
  go_wp2_with fail
  have b0 : ((w.alloc (.cells #[.slice ar c.rooms.length cr, .slice at_ c.traps.length ct, .slice au c.runs.length cu, .slice an c.nights.length cn] 26)).alloc (.cells #[.slice none 0 0, .slice none 0 0, .slice none 0 0, .slice none 0 0] 26)).heap[w.heap.size]? = some (.cells #[.slice ar c.rooms.length cr, .slice at_ c.traps.length ct, .slice au c.runs.length cu, .slice an c.nights.length cn] 26 (0, 0)) := keep _ (blk _ _ _ _ rfl)
  have b1 : ((w.alloc (.cells #[.slice ar c.rooms.length cr, .slice at_ c.traps.length ct, .slice au c.runs.length cu, .slice an c.nights.length cn] 26)).alloc (.cells #[.slice none 0 0, .slice none 0 0, .slice none 0 0, .slice none 0 0] 26)).heap[w.heap.size + 1]? = some (.cells #[.slice none 0 0, .slice none 0 0, .slice none 0 0, .slice none 0 0] 26 (0, 0)) := blk _ _ _ _ (by simp)
  have hB0 : Below w.heap.size w ((w.alloc (.cells #[.slice ar c.rooms.length cr, .slice at_ c.traps.length ct, .slice au c.runs.length cu, .slice an c.nights.length cn] 26)).alloc (.cells #[.slice none 0 0, .slice none 0 0, .slice none 0 0, .slice none 0 0] 26)) := ((Below.refl _ w).alloc (Nat.le_refl _) _).alloc (by simp) _
  obtain ⟨W0, hW0⟩ : ∃ W0, ((w.alloc (.cells #[.slice ar c.rooms.length cr, .slice at_ c.traps.length ct, .slice au c.runs.length cu, .slice an c.nights.length cn] 26)).alloc (.cells #[.slice none 0 0, .slice none 0 0, .slice none 0 0, .slice none 0 0] 26)) = W0 := ⟨_, rfl⟩
  rw [hW0] at b0 b1 hB0 ⊢
  clear hW0
  have hlt := (Array.getElem?_eq_some_iff.1 b1).1
  have hS := BoxS.of b0 b1 1
  have hlt2 : ∀ W, Hid (Below (w.heap.size + 1) W0 W) → w.heap.size + 1 < W.heap.size := fun W h => Nat.lt_of_lt_of_le hlt h.out.size
  have hw : ∀ W, Hid (Below (w.heap.size + 1) W0 W) → Below w.heap.size w W := fun W h => hB0.trans (h.out.mono (by omega))
  have HLT := Lib.hid hlt2
  have HW := Lib.hid hw
  have HCR : Hid (∀ W, Hid (Below (w.heap.size + 1) W0 W) → Calls Try.prog 44 #[.slice ar c.rooms.length cr] W fun e w' => ∃ v', e = .returned v' ∧ w'.ownsRow W.heap.size 3 1 v' c.rooms.length (intsV c.rooms) ∧ Below W.heap.size W w') := fun W h => copyI_any _ _ W ((HALL.out.1.below (hw W h) (Nat.le_refl _)).mono (hw W h).size) (by have := HSH.out.rooms.1; omega)
  have HCT : Hid (∀ W, Hid (Below (w.heap.size + 1) W0 W) → Calls Try.prog 44 #[.slice at_ c.traps.length ct] W fun e w' => ∃ v', e = .returned v' ∧ w'.ownsRow W.heap.size 3 1 v' c.traps.length (intsV c.traps) ∧ Below W.heap.size W w') := fun W h => copyI_any _ _ W ((HALL.out.2.1.below (hw W h) (Nat.le_refl _)).mono (hw W h).size) (by have := HSH.out.traps.1; omega)
  have HCU : Hid (∀ W, Hid (Below (w.heap.size + 1) W0 W) → Calls Try.prog 77 #[.slice au c.runs.length cu] W fun e w' => ∃ v', e = .returned v' ∧ w'.ownsRow W.heap.size 63 2 v' c.runs.length (pairsV c.runs) ∧ Below W.heap.size W w') := fun W h => copyR_any _ _ W ((HALL.out.2.2.1.below (hw W h) (Nat.le_refl _)).mono (hw W h).size) (by have := HSH.out.runs.1; omega)
  have HCN : Hid (∀ W, Hid (Below (w.heap.size + 1) W0 W) → Calls Try.prog 65 #[.slice an c.nights.length cn] W fun e w' => ∃ v', e = .returned v' ∧ OwnRows w' W.heap.size v' c.nights ∧ Below W.heap.size W w') := fun W h => copyRows_any _ _ W ((HALL.out.2.2.2.below (hw W h) (Nat.le_refl _)).mono (hw W h).size) (by have := HSH.out.nights.1; omega) (fun q hq => by have := (HSH.out.nights.2 q hq).1; omega)
  have hS' : W0.drew.cell? ⟨w.heap.size, 0, none⟩ = some (.slice ar c.rooms.length cr) ∧ W0.drew.cell? ⟨w.heap.size, 1, none⟩ = some (.slice at_ c.traps.length ct) ∧ W0.drew.cell? ⟨w.heap.size, 2, none⟩ = some (.slice au c.runs.length cu) ∧ W0.drew.cell? ⟨w.heap.size, 3, none⟩ = some (.slice an c.nights.length cn) ∧ W0.drew.cell? ⟨w.heap.size + 1, 0, none⟩ = some (cellOf W0.drew ⟨w.heap.size + 1, 0, none⟩) ∧ W0.drew.cell? ⟨w.heap.size + 1, 1, none⟩ = some (cellOf W0.drew ⟨w.heap.size + 1, 1, none⟩) ∧ W0.drew.cell? ⟨w.heap.size + 1, 2, none⟩ = some (cellOf W0.drew ⟨w.heap.size + 1, 2, none⟩) ∧ W0.drew.cell? ⟨w.heap.size + 1, 3, none⟩ = some (cellOf W0.drew ⟨w.heap.size + 1, 3, none⟩) ∧ W0.drew.frozen? ⟨w.heap.size + 1, 0, none⟩ = false ∧ W0.drew.frozen? ⟨w.heap.size + 1, 1, none⟩ = false ∧ W0.drew.frozen? ⟨w.heap.size + 1, 2, none⟩ = false ∧ W0.drew.frozen? ⟨w.heap.size + 1, 3, none⟩ = false ∧ Hid (Below (w.heap.size + 1) W0 W0.drew) := hS
  clear b0 b1 hB0 hlt hlt2 hw hS
  go_region_held3 (fun w' => w'.cell? ⟨w.heap.size, 0, none⟩ = some (.slice ar c.rooms.length cr) ∧ w'.cell? ⟨w.heap.size, 1, none⟩ = some (.slice at_ c.traps.length ct) ∧ w'.cell? ⟨w.heap.size, 2, none⟩ = some (.slice au c.runs.length cu) ∧ w'.cell? ⟨w.heap.size, 3, none⟩ = some (.slice an c.nights.length cn) ∧ w'.cell? ⟨w.heap.size + 1, 0, none⟩ = some (cellOf w' ⟨w.heap.size + 1, 0, none⟩) ∧ w'.cell? ⟨w.heap.size + 1, 1, none⟩ = some (cellOf w' ⟨w.heap.size + 1, 1, none⟩) ∧ w'.cell? ⟨w.heap.size + 1, 2, none⟩ = some (cellOf w' ⟨w.heap.size + 1, 2, none⟩) ∧ w'.cell? ⟨w.heap.size + 1, 3, none⟩ = some (cellOf w' ⟨w.heap.size + 1, 3, none⟩) ∧ w'.frozen? ⟨w.heap.size + 1, 0, none⟩ = false ∧ w'.frozen? ⟨w.heap.size + 1, 1, none⟩ = false ∧ w'.frozen? ⟨w.heap.size + 1, 2, none⟩ = false ∧ w'.frozen? ⟨w.heap.size + 1, 3, none⟩ = false ∧ Hid (Below (w.heap.size + 1) W0 w')) (first | assumption | exact BoxS.below (Nat.lt_succ_self _) (HLT.out _ (by exact (by assumption : _ ∧ _ ∧ _ ∧ _ ∧ _ ∧ _ ∧ _ ∧ _ ∧ _ ∧ _ ∧ _ ∧ _ ∧ Hid _).2.2.2.2.2.2.2.2.2.2.2.2)) (by assumption) (by assumption) | exact BoxS.store (Nat.lt_succ_self _) (by assumption))
    (first | (go_at_call 44; (with_reducible refine (HCR.out _ (by exact (by assumption : _ ∧ _ ∧ _ ∧ _ ∧ _ ∧ _ ∧ _ ∧ _ ∧ _ ∧ _ ∧ _ ∧ _ ∧ Hid _).2.2.2.2.2.2.2.2.2.2.2.2)).mono ?_); rintro e w1 ⟨v1, rfl, hx1, hb1⟩; obtain ⟨a1, q1, rfl⟩ := owns_slice hx1; have HX1 := Lib.hid hx1; clear hx1) | (go_at_call 44; (with_reducible refine (HCT.out _ (by exact (by assumption : _ ∧ _ ∧ _ ∧ _ ∧ _ ∧ _ ∧ _ ∧ _ ∧ _ ∧ _ ∧ _ ∧ _ ∧ Hid _).2.2.2.2.2.2.2.2.2.2.2.2)).mono ?_); rintro e w2 ⟨v2, rfl, hx2, hb2⟩; obtain ⟨a2, q2, rfl⟩ := owns_slice hx2; have HX2 := Lib.hid hx2; clear hx2) | (go_at_call 77; (with_reducible refine (HCU.out _ (by exact (by assumption : _ ∧ _ ∧ _ ∧ _ ∧ _ ∧ _ ∧ _ ∧ _ ∧ _ ∧ _ ∧ _ ∧ _ ∧ Hid _).2.2.2.2.2.2.2.2.2.2.2.2)).mono ?_); rintro e w3 ⟨v3, rfl, hx3, hb3⟩; obtain ⟨a3, q3, rfl⟩ := owns_slice hx3; have HX3 := Lib.hid hx3; clear hx3) | (go_at_call 65; (with_reducible refine (HCN.out _ (by exact (by assumption : _ ∧ _ ∧ _ ∧ _ ∧ _ ∧ _ ∧ _ ∧ _ ∧ _ ∧ _ ∧ _ ∧ _ ∧ Hid _).2.2.2.2.2.2.2.2.2.2.2.2)).mono ?_); rintro e w4 ⟨v4, rfl, hx4, hb4⟩; obtain ⟨a4, q4, rfl⟩ := hx4.slice; have HX4 := Lib.hid hx4; clear hx4))
  have hl := fun W (h : BoxS W0 w.heap.size (w.heap.size + 1) (.slice ar c.rooms.length cr) (.slice at_ c.traps.length ct) (.slice au c.runs.length cu) (.slice an c.nights.length cn) W) => HLT.out W h.2.2.2.2.2.2.2.2.2.2.2.2
  have z0 := hl _ hS'
  have s1 := BoxS.below (Nat.lt_succ_self _) z0 hb1 hS'
  have z1 := hl _ s1
  have s2 := BoxS.below (Nat.lt_succ_self _) z1 hb2 s1
  have z2 := hl _ s2
  have s3 := BoxS.below (Nat.lt_succ_self _) z2 hb3 s2
  have z3 := hl _ s3
  have s4 := BoxS.below (Nat.lt_succ_self _) z3 hb4 s3
  have z4 := hl _ s4
  obtain ⟨_, _, _, _, d0, d1, d2, d3, _, _, _, _, hz⟩ := s4
  have n2 := hb2.size; have n3 := hb3.size; have n1 := hb1.size
  have o1 := owns_below (owns_below (owns_below HX1.out hb2) hb3) hb4
  have o2 := owns_below (owns_below HX2.out hb3) hb4
  have o3 := owns_below HX3.out hb4
  have o4 := HX4.out
  have q1' := owns_base (owns_set (p := ⟨w.heap.size + 1, 3, none⟩) (u := .slice a4 c.nights.length q4) (owns_set (p := ⟨w.heap.size + 1, 2, none⟩) (u := .slice a3 c.runs.length q3) (owns_set (p := ⟨w.heap.size + 1, 1, none⟩) (u := .slice a2 c.traps.length q2) (owns_set (p := ⟨w.heap.size + 1, 0, none⟩) (u := .slice a1 c.rooms.length q1) o1 z0) z0) z0) z0) (b' := w.heap.size) (by omega)
  have q2' := owns_base (owns_set (p := ⟨w.heap.size + 1, 3, none⟩) (u := .slice a4 c.nights.length q4) (owns_set (p := ⟨w.heap.size + 1, 2, none⟩) (u := .slice a3 c.runs.length q3) (owns_set (p := ⟨w.heap.size + 1, 1, none⟩) (u := .slice a2 c.traps.length q2) (owns_set (p := ⟨w.heap.size + 1, 0, none⟩) (u := .slice a1 c.rooms.length q1) o2 z1) z1) z1) z1) (b' := w.heap.size) (by omega)
  have q3' := owns_base (owns_set (p := ⟨w.heap.size + 1, 3, none⟩) (u := .slice a4 c.nights.length q4) (owns_set (p := ⟨w.heap.size + 1, 2, none⟩) (u := .slice a3 c.runs.length q3) (owns_set (p := ⟨w.heap.size + 1, 1, none⟩) (u := .slice a2 c.traps.length q2) (owns_set (p := ⟨w.heap.size + 1, 0, none⟩) (u := .slice a1 c.rooms.length q1) o3 z2) z2) z2) z2) (b' := w.heap.size) (by omega)
  have q4' := OwnRows.base (OwnRows.set (p := ⟨w.heap.size + 1, 3, none⟩) (u := .slice a4 c.nights.length q4) (OwnRows.set (p := ⟨w.heap.size + 1, 2, none⟩) (u := .slice a3 c.runs.length q3) (OwnRows.set (p := ⟨w.heap.size + 1, 1, none⟩) (u := .slice a2 c.traps.length q2) (OwnRows.set (p := ⟨w.heap.size + 1, 0, none⟩) (u := .slice a1 c.rooms.length q1) o4 z3) z3) z3) z3) (b' := w.heap.size) (by omega)
  have hw4 := HW.out _ hz
  have hfin : Below w.heap.size w ((((w4.setCell ⟨w.heap.size + 1, 0, none⟩ (.slice a1 c.rooms.length q1)).setCell ⟨w.heap.size + 1, 1, none⟩ (.slice a2 c.traps.length q2)).setCell ⟨w.heap.size + 1, 2, none⟩ (.slice a3 c.runs.length q3)).setCell ⟨w.heap.size + 1, 3, none⟩ (.slice a4 c.nights.length q4)) := (((hw4.setCell (Nat.le_succ _) _).setCell (Nat.le_succ _) _).setCell (Nat.le_succ _) _).setCell (Nat.le_succ _) _
  have HF := Lib.hid (And.intro (OwnCol.mk q1' q2' q3' q4') hfin)
  clear s1 s2 s3 z0 z1 z2 z3 z4 hl hb1 hb2 hb3 hb4 n1 n2 n3 o1 o2 o3 o4 q1' q2' q3' q4' hw4 hfin hz HX1 HX2 HX3 HX4 hS'
  go_wp2_with fail
  exact bodyPost_ret (v := .agg #[.slice a1 c.rooms.length q1, .slice a2 c.traps.length q2, .slice a3 c.runs.length q3, .slice a4 c.nights.length q4]) (by simp [results, Try.results18, go_sem, d0, d1, d2, d3]) rfl ⟨_, _, _, _, rfl, HF.out.1, HF.out.2⟩
end Go.Proofs.Ytnhifinfjfpoiaa

namespace Go.Proofs.Ytnhifinfjfpoiaa
open Go.RowKit
set_option linter.unusedVariables false
set_option linter.unusedSimpArgs false
attribute [local go_sem] Oper.semAt_some

set_option maxRecDepth 100000 in
set_option maxHeartbeats 4000000 in
theorem Find_bad (c : Col) (r t u n : Value) (m : Bool) (w : World) (hc : ColAt w w.heap.size r t u n c) (hk : ¬ fitErr c = 0) :
    Calls Try.prog 67 #[.agg #[r, t, u, n], .bool m] w fun e w' => e = .returned (.tuple #[.agg #[.slice none 0 0, .slice none 0 0], .int .i64 (fitErr c)]) ∧ Below w.heap.size w w' := by
  have hBW : Below w.heap.size w ((w.alloc (.cells #[r, t, u, n] 26)).alloc (.cells #[.slice none 0 0, .slice none 0 0] 55)) := ((Below.refl w.heap.size w).alloc (Nat.le_refl _) _).alloc (by simp) _
  have hcA := hc.on hBW
  have HCK := Lib.hid (fitting_bad c r t u n _ hcA hk)
  have hs : ((w.alloc (.cells #[r, t, u, n] 26)).alloc (.cells #[.slice none 0 0, .slice none 0 0] 55)).heap[w.heap.size + 1]? = some (.cells #[.slice none 0 0, .slice none 0 0] 55 (0, 0)) := blk _ _ _ _ (by simp)
  obtain ⟨hr, htr, hu, hn⟩ := hc
  obtain ⟨ar, cr, rfl, _⟩ := hr.open
  obtain ⟨at_, ct, rfl, _⟩ := htr.open
  obtain ⟨au, cu, rfl, _⟩ := hu.open
  obtain ⟨an, cn, rfl, _⟩ := hn.open
  have HB := Lib.hid hBW
  have HS := Lib.hid hs
  have hk1 : (fitErr c == 0) = false := by simpa using hk
  have hk2 : (fitErr c != 0) = true := by simp [bne, hk1]
  clear hr htr hu hn hBW hk hcA hs
  go_enter Try.func67, Try.ntmps67
  go_wp2_with fail
  refine HCK.out.mono ?_
  rintro e w1 ⟨rfl, hb1⟩
  have hs1 := (hb1.block (w.heap.size + 1) (by simp)).trans HS.out
  have k0 := (cell_of_row w1 _ 0 _ _ _ hs1).trans rfl
  have k1 := (cell_of_row w1 _ 1 _ _ _ hs1).trans rfl
  have k2 := frozen_of_row w1 _ 0 _ _ hs1
  have k3 := frozen_of_row w1 _ 1 _ _ hs1
  have HD := Lib.hid hb1
  clear hb1 hs1
  go_wp2_with fail
  refine bodyPost_ret (v := .tuple #[.agg #[.slice none 0 0, .slice none 0 0], .int .i64 (fitErr c)]) (by simp [results, Try.results67, go_sem, k0, k1]) rfl ⟨rfl, ?_⟩
  have h1 := HB.out.trans (HD.out.mono (by simp; omega))
  exact (h1.setCell (p := ⟨w.heap.size + 1, 0, none⟩) (Nat.le_succ _) _).setCell (p := ⟨w.heap.size + 1, 1, none⟩) (Nat.le_succ _) _

def moreX (m : Bool) : Int := if m then 361 else 0

theorem six_ints {w : World} {b n ty : Nat} {f : Nat → Int} (h : w.heap[b]? = some (.cells #[.int .i64 (f 0), .int .i64 (f 1), .int .i64 (f 2), .int .i64 (f 3), .int .i64 (f 4), .int .i64 (f 5)] ty (0, 0))) (hn : n ≤ 6) (hf : ∀ j, j < n → I64 (f j)) :
    IsInts w w.heap.size (.slice (some ⟨b, 0, none⟩) n 6) ((List.range n).map f) := by
  refine ⟨⟨some ⟨b, 0, none⟩, 6, by simp, by simpa using hn, by simp; omega, .inr ⟨b, 0, rfl, (Array.getElem?_eq_some_iff.1 h).1, fun j hj => ?_⟩⟩, fun x hx => ?_⟩
  · have hj' : j < n := by simpa using hj
    refine (cell_of_row w b _ _ _ _ h).trans ?_
    simp only [nth_range f n j hj', Nat.zero_add]
    match j, (show j < 6 by omega) with
    | 0, _ => rfl
    | 1, _ => rfl
    | 2, _ => rfl
    | 3, _ => rfl
    | 4, _ => rfl
    | 5, _ => rfl
  · obtain ⟨j, hj, rfl⟩ := List.mem_map.1 hx
    exact hf j (List.mem_range.1 hj)
theorem find_i64 {c : Col} (hk : fitErr c = 0) {x : Int} (hx : 0 ≤ x) {k j : Nat} (h1 : k < (needsC c).length + 1) (h2 : j < 6) : I64 ((findX c x).giv k j) := by
  have ok := okCol_of (fit_parts hk).1
  have g := find_good hk hx
  have a := (g.le h1 h2).2
  have b := g.giv k j h1 h2
  have d := ok.rooms6 j h2
  unfold I64; omega
theorem findT_small {c : Col} (hk : fitErr c = 0) {x : Int} (hx : 0 ≤ x) : ∀ r ∈ findT c x, r.length ≤ 100 ∧ ∀ y ∈ r, I64 y := by
  have o2 := (okCol_of (fit_parts hk).1).houses.2
  intro r hr
  obtain ⟨k, hk1, rfl⟩ := List.mem_map.1 hr
  refine ⟨by simp; omega, fun y hy => ?_⟩
  obtain ⟨j, hj, rfl⟩ := List.mem_map.1 hy
  rw [List.mem_range] at hk1 hj
  exact find_i64 hk hx (by omega) (by omega)
theorem findL_i64 {c : Col} (hk : fitErr c = 0) {x : Int} (hx : 0 ≤ x) : ∀ y ∈ findL c x, I64 y := by
  have o2 := (okCol_of (fit_parts hk).1).houses.2
  intro y hy
  obtain ⟨j, hj, rfl⟩ := List.mem_map.1 hy
  rw [List.mem_range] at hj
  exact find_i64 hk hx (by omega) (by omega)
theorem findL_len (c : Col) (x : Int) : (findL c x).length = c.rooms.length := by simp [findL]
/-- A list of rows, each in memory of its own, grown by a row. -/
theorem rows_snoc {w8 w9 : World} {b : Nat} {v v' vr : Value} {vs : List Value} {rows : List (List Int)} {row : List Int} (h1 : w8.ownsRow b 22 1 v rows.length vs)
    (h2 : ∀ j, j < rows.length → w8.ownsRow b 3 1 (vs.getD j (.slice none 0 0)) (nthR rows j).length (intsV (nthR rows j))) (hr : w8.ownsRow b 3 1 vr row.length (intsV row))
    (hown : w9.ownsRow b 22 1 v' (rows.length + 1) (vs ++ [vr])) (hg : w8.grownBy w9 v.ownBlock) : OwnRows w9 b v' (rows ++ [row]) := by
  have hkeep : ∀ {y : Value} {n : Nat} {xs : List Value}, w8.ownsRow b 3 1 y n xs → w9.ownsRow b 3 1 y n xs := fun {y n xs} hy =>
    owns_grown hy hg (fun g cs hc => not_own h1 hc (by decide))
  have hvl : vs.length = rows.length := by have := h1.1; simpa using this
  refine ⟨vs ++ [vr], by simpa using hown, fun j hj => ?_⟩
  by_cases q : j < rows.length
  · have e1 : nthR (rows ++ [row]) j = nthR rows j := by unfold nthR; rw [List.getD_eq_getElem?_getD, List.getD_eq_getElem?_getD, List.getElem?_append_left q]
    have e3 : (vs ++ [vr]).getD j (.slice none 0 0) = vs.getD j (.slice none 0 0) := by rw [List.getD_eq_getElem?_getD, List.getD_eq_getElem?_getD, List.getElem?_append_left (by omega)]
    rw [e1, e3]; exact hkeep (h2 j q)
  · obtain rfl : j = rows.length := by simp at hj; omega
    have e1 : nthR (rows ++ [row]) rows.length = row := by unfold nthR; simp
    have e3 : (vs ++ [vr]).getD rows.length (.slice none 0 0) = vr := by rw [← hvl, List.getD_eq_getElem?_getD, List.getElem?_append_right (Nat.le_refl _)]; simp
    rw [e1, e3]; exact hkeep hr
theorem take_row {rows : List (List Int)} {k : Nat} (h : k < rows.length) : rows.take (k + 1) = rows.take k ++ [nthR rows k] := by
  rw [List.take_succ_eq_append_getElem h, nthR_eq h]
/-- The truth that is being made: so many of its rows. -/
def FindRel (c : Col) (x : Int) (w4 : World) (k : Nat) (wr : World) : Prop :=
  ∃ vc lv, wr.heap[w4.heap.size]? = some (.cells #[vc, lv] 55 (0, 0)) ∧ OwnRows wr (w4.heap.size + 1) vc ((findT c x).take k) ∧
    (if k = (needsC c).length + 1 then wr.ownsRow (w4.heap.size + 1) 3 1 lv c.rooms.length (intsV (findL c x)) else lv = .slice none 0 0) ∧ Below w4.heap.size w4 wr
theorem findT_len (c : Col) (x : Int) : (findT c x).length = (needsC c).length := by simp [findT]
theorem findT_row {c : Col} {x : Int} {k : Nat} (hk : k < (needsC c).length) : nthR (findT c x) k = (List.range c.rooms.length).map ((findX c x).giv k) := by simp [findT, nthR, hk]

set_option maxRecDepth 100000 in
set_option maxHeartbeats 4000000 in
theorem Find_ok (c : Col) (r t u n : Value) (m : Bool) (w : World) (hc : ColAt w w.heap.size r t u n c) (hk : fitErr c = 0) :
    Calls Try.prog 67 #[.agg #[r, t, u, n], .bool m] w fun e w' => ∃ tv lv, e = .returned (.tuple #[.agg #[tv, lv], .int .i64 0]) ∧ IsRows w' w'.heap.size tv (findT c (moreX m)) ∧ IsInts w' w'.heap.size lv (findL c (moreX m)) ∧ Below w.heap.size w w' := by
  have ok := okCol_of (fit_parts hk).1
  have o2 := ok.houses.2
  have hBW : Below w.heap.size w ((w.alloc (.cells #[r, t, u, n] 26)).alloc (.cells #[.slice none 0 0, .slice none 0 0] 55)) := ((Below.refl w.heap.size w).alloc (Nat.le_refl _) _).alloc (by simp) _
  have hcA := hc.on hBW
  have HCK := Lib.hid (fitting_ok c r t u n _ (hcA.mono (Nat.le_refl _)) hk)
  have hs : ((w.alloc (.cells #[r, t, u, n] 26)).alloc (.cells #[.slice none 0 0, .slice none 0 0] 55)).heap[w.heap.size + 1]? = some (.cells #[.slice none 0 0, .slice none 0 0] 55 (0, 0)) := blk _ _ _ _ (by simp)
  have hx : ((w.alloc (.cells #[r, t, u, n] 26)).alloc (.cells #[.slice none 0 0, .slice none 0 0] 55)).heap[w.heap.size]? = some (.cells #[r, t, u, n] 26 (0, 0)) := keep _ (blk _ _ _ _ rfl)
  obtain ⟨hr, htr, hu, hn⟩ := hc
  have HRI := Lib.hid hr
  obtain ⟨ar, cr, rfl, _⟩ := hr.open
  obtain ⟨at_, ct, rfl, _⟩ := htr.open
  obtain ⟨au, cu, rfl, _⟩ := hu.open
  obtain ⟨an, cn, rfl, _⟩ := hn.open
  have HB := Lib.hid hBW; have HS := Lib.hid hs; have HX := Lib.hid hx; have HC := Lib.hid hcA; have HOK := Lib.hid ok; have HK := Lib.hid hk
  clear hr htr hu hn hBW hk hcA hs hx ok
  cases m
  · go_enter Try.func67, Try.ntmps67
    go_wp2_with fail
    refine HCK.out.mono ?_
    rintro e w1 ⟨p, rfl, hb1, hd⟩
    have HD := Lib.hid (And.intro hb1 hd)
    clear hb1 hd
    have hul := unionTo_lt (fun j _ => leftC_lt c o2 j) 6 (by omega)
    have HUL : Hid (unionN (leftC c) < 64) := hul
    obtain ⟨x0, x1, x2, x3⟩ := four_at (blk_on HX.out HD.out.1)
    clear hul
    go_wp2_with (first | (go_at_call 98; refine (left_any c p _ HD.out.2).mono ?_; rintro e w2 ⟨rfl, hb2⟩; have H2 := Lib.hid hb2; clear hb2) | (go_at_call 109; refine (union_any (leftC c) (fun j _ => leftC_lt c o2 j) _).mono ?_; rintro e w3 ⟨rfl, hb3⟩; have H3 := Lib.hid (H2.out.trans (hb3.mono H2.out.size)); have hX3 := blk_on (blk_on HX.out HD.out.1) H3.out; have HX3 := Lib.hid hX3; have HS3 := Lib.hid (blk_on (blk_on HS.out HD.out.1) H3.out); obtain ⟨y0, y1, y2, y3⟩ := four_at (keep (.cells #[.int .i64 0, .int .i64 (unionN (leftC c) : Nat)] 154) hX3); clear hb3 hX3 x0 x1 x2 x3))
    have hbS : Below w1.heap.size w1 ((w3.alloc (.cells #[.int .i64 0, .int .i64 (unionN (leftC c) : Nat)] 154)).alloc (.cells #[.int .i64 0, .int .i64 (unionN (leftC c) : Nat)] 154)) := (H3.out.alloc H3.out.size _).alloc (by have := H3.out.size; simp; omega) _
    have hb3S : Below w3.heap.size w3 ((w3.alloc (.cells #[.int .i64 0, .int .i64 (unionN (leftC c) : Nat)] 154)).alloc (.cells #[.int .i64 0, .int .i64 (unionN (leftC c) : Nat)] 154)) := ((Below.refl _ _).alloc (Nat.le_refl _) _).alloc (by simp) _
    refine (share_any c p c.rooms _ _ [(0, ((unionN (leftC c) : Nat) : Int))] _ (HD.out.2.below hbS) (((HRI.out.on HB.out).on HD.out.1).on hbS) o2 (.inr ⟨w3.heap.size + 1, 1, 0, unionN (leftC c), rfl, rfl, by simp [go_sem], by simp [go_sem], by simp, HUL.out, by constructor <;> decide⟩)).mono ?_
    rintro e w4 ⟨s, g, nv, rfl, hst, hb4, hsz4⟩
    have HST := Lib.hid hst
    have HX4 := Lib.hid (blk_on (blk_on HX3.out hb3S) hb4)
    have HS4 := Lib.hid (blk_on (blk_on HS3.out hb3S) hb4)
    have HB4 := Lib.hid (HB.out.trans ((HD.out.1.trans ((hbS.trans (hb4.mono hbS.size)).mono HD.out.1.size)).mono HB.out.size))
    obtain ⟨N, hN⟩ : ∃ N, (needsC c).length + 1 = N := ⟨_, rfl⟩
    have hlen : (needsC c ++ [((0 : Int), ((unionN (leftC c) : Nat) : Int))]).length = N := by rw [← hN]; simp
    have hgv : GivAt w4 g N (findX c 0).giv := by have := hst.giv; rw [hlen] at this; exact this
    have hsl : w4.cell? ⟨s, 7, none⟩ = some (.slice (some ⟨g, 0, none⟩) N N) := by
      have := (cell_of_row w4 s 7 _ _ _ hst.stall).trans rfl
      rw [hlen] at this; exact this
    have hslt : s < w4.heap.size := hst.lt.1
    have hglt : g < w4.heap.size := hst.lt.2
    have hsl' := (((Below.refl w4.heap.size w4).alloc (Nat.le_refl _) (.cells #[.slice none 0 0, .slice none 0 0] 55)).cell (p := ⟨s, 7, none⟩) hslt).trans hsl
    have HGV := Lib.hid (And.intro hgv (And.intro hsl (And.intro hslt hglt)))
    have HN := Lib.hid hN
    have hN40 : N ≤ 37 := by have := needsC_len HOK.out; omega
    obtain ⟨i0, hi, hz0, hz1, hz2⟩ := info_parts infoRow
    clear hst hb4 hsz4 hlen hgv hsl hslt hN hbS hb3S y0 y1 y2 y3 HST HCK
    go_wp2_with fail
    obtain ⟨W5, hW5⟩ : ∃ W5, w4.alloc (.cells #[.slice none 0 0, .slice none 0 0] 55) = W5 := ⟨_, rfl⟩
    have h5 : FindRel c 0 w4 0 W5 := by
      rw [← hW5]
      refine ⟨.slice none 0 0, .slice none 0 0, heap_alloc_new _ _, ⟨[], World.ownsRow_nil _ _ _ _, fun j hj => by simp at hj⟩, ?_, (Below.refl _ _).alloc (Nat.le_refl _) _⟩
      rw [if_neg (by omega)]
    have H5 := Lib.hid h5
    rw [hW5] at hsl' ⊢
    clear hW5 h5 hsl'
    go_loopw [50] (fun i wr => ∃ k : Nat, k ≤ N ∧ i = .int .i64 k ∧ Hid (FindRel c 0 w4 k wr)) (fun i _ => N - (intOf i).toNat)
    case atStart => exact ⟨0, Nat.zero_le _, rfl, H5⟩
    case round =>
      obtain ⟨k, hk, rfl, HR⟩ := hrel
      by_cases hlt : k < N
      · have hki : (k : Int) < N := by omega
        obtain ⟨vc, lv, hblk, hrows, hleft, hbel⟩ := HR.out
        obtain ⟨ac, qc, rfl⟩ := hrows.slice
        have m := fun j (hj : j < 6) => (hbel.cell (p := ⟨g, k * 6 + j, none⟩) HGV.out.2.2.2).trans (HGV.out.1.cell k j hlt hj)
        have hI : ∀ j, j < 6 → I64 ((findX c 0).giv k j) := fun j hj => find_i64 HK.out (by decide) (by have := HN.out; omega) hj
        obtain ⟨f, hf⟩ : ∃ f, (findX c 0).giv k = f := ⟨_, rfl⟩
        rw [hf] at m hI
        have m0 := m 0 (by omega); have m1 := m 1 (by omega); have m2 := m 2 (by omega); have m3 := m 3 (by omega); have m4 := m 4 (by omega); have m5 := m 5 (by omega)
        rw [Nat.add_zero] at m0
        have hsr := (hbel.cell (p := ⟨s, 7, none⟩) HGV.out.2.2.1).trans HGV.out.2.1
        have hxr := blk_on HX4.out hbel
        obtain ⟨q0, q1, q2, q3⟩ := four_at (keep (.cells #[.int .i64 (f 0), .int .i64 (f 1), .int .i64 (f 2), .int .i64 (f 3), .int .i64 (f 4), .int .i64 (f 5)] 179) hxr)
        have hlr : (findT c 0).take k = (findT c 0).take k := rfl
        have hcl := clone_any ((List.range c.rooms.length).map f) _ (wr.alloc (.cells #[.int .i64 (f 0), .int .i64 (f 1), .int .i64 (f 2), .int .i64 (f 3), .int .i64 (f 4), .int .i64 (f 5)] 179)) (six_ints (heap_alloc_new _ _) o2 (fun j hj => hI j (by omega))) (by simp; omega) (by have := HOK.out.houses.1; simp; omega)
        simp only [List.length_map, List.length_range] at hcl
        have HCL := Lib.hid hcl
        have HF := Lib.hid hf
        have hr6 : (c.rooms.length : Int) ≤ 6 := by omega
        have hr0 : (0 : Int) ≤ (c.rooms.length : Int) := by omega
        have HRL := Lib.hid (And.intro hblk (And.intro hrows (And.intro hleft hbel)))
        have HRL2 := Lib.hid hleft
        clear m hI hf hxr hcl hblk hrows hleft hbel hlr
        go_wp2_with fail
        refine HCL.out.mono ?_
        rintro e w6 ⟨g6, c6, rfl, hown6, hb6, hg6⟩
        have hbW : Below wr.heap.size wr w6 := ((Below.refl _ _).alloc (Nat.le_refl _) _).trans (hb6.mono (by simp))
        obtain ⟨hblk, hrows, hleft, hbel⟩ := HRL.out
        have hbel6 := hbel.trans (hbW.mono hbel.size)
        have hblk6 := blk_on hblk hbW
        have b0 := (cell_of_row w6 _ 0 _ _ _ hblk6).trans rfl
        have b1 := (cell_of_row w6 _ 1 _ _ _ hblk6).trans rfl
        have f0 := frozen_of_row w6 _ 0 _ _ hblk6
        have f1 := frozen_of_row w6 _ 1 _ _ hblk6
        have hs6 := (hbel6.cell (p := ⟨s, 7, none⟩) HGV.out.2.2.1).trans HGV.out.2.1
        have hown6' : w6.ownsRow (w4.heap.size + 1) 3 1 (.slice (some ⟨g6, 0, none⟩) c.rooms.length c6) c.rooms.length (intsV ((List.range c.rooms.length).map f)) := owns_base hown6 (by have := hbel.size; have := (Array.getElem?_eq_some_iff.1 hblk).1; simp; omega)
        have hB14 : w4.heap.size < wr.heap.size := (Array.getElem?_eq_some_iff.1 hblk).1
        have hrows6 := hrows.below hbW
        have hlk : ((findT c 0).take k).length = k := by rw [List.length_take, findT_len]; have := HN.out; omega
        rw [hlk] at b0 hblk6 hrows6
        by_cases e : k + 1 = N
        · have he : ((k : Int) == (N : Int) - 1) = true := by simp; omega
          have h7 : FindRel c 0 w4 (k + 1) (w6.setCell ⟨w4.heap.size, 1, none⟩ (.slice (some ⟨g6, 0, none⟩) c.rooms.length c6)) := by
            have hKk : k = (needsC c).length := by have := HN.out; omega
            refine ⟨.slice ac k qc, .slice (some ⟨g6, 0, none⟩) c.rooms.length c6, ?_, ?_, ?_, hbel6.setCell (p := ⟨w4.heap.size, 1, none⟩) (Nat.le_refl _) _⟩
            · rw [heap_setCell_same w6 _ 1 _ _ _ hblk6]; rfl
            · have e1 : (findT c 0).take (k + 1) = (findT c 0).take k := by rw [List.take_of_length_le (by rw [findT_len]; omega), List.take_of_length_le (by rw [findT_len]; omega)]
              rw [e1]; exact OwnRows.set hrows6 (by simp)
            · rw [if_pos (by omega)]
              have e2 : intsV (findL c 0) = intsV ((List.range c.rooms.length).map f) := by unfold findL; rw [← hKk, HF.out]
              rw [e2]; exact owns_set hown6' (by simp)
          have H7 := Lib.hid h7
          clear h7 hown6 hb6 hg6 hbW hblk hrows hleft hbel hbel6 hblk6 hown6' hrows6 hlk HRL HCL hsr m0 m1 m2 m3 m4 m5 q0 q1 q2 q3
          go_wp2_with fail
          go_roundw
          case rel => exact ⟨k + 1, by omega, by go_num, H7.out⟩
          case measure => simp [intOf]; omega
        · have he : ((k : Int) == (N : Int) - 1) = false := by simp; omega
          have hkK : k < (needsC c).length := by have := HN.out; omega
          obtain ⟨vs, hv1, hv2⟩ := hrows6
          rw [hlk] at hv1 hv2
          have hvA := hv1.alloc (.cells #[.slice (some ⟨g6, 0, none⟩) c.rooms.length c6] 22)
          have HV := Lib.hid (And.intro hvA (And.intro hv2 (And.intro hown6' (And.intro hbel6 hblk6))))
          have HLK := Lib.hid hlk
          have hsz6 : w4.heap.size + 1 ≤ w6.heap.size := by have := hbW.size; omega
          clear hown6 hb6 hg6 hbW hblk hrows hleft hbel hbel6 hblk6 hown6' hlk hvA hv1 hv2 HRL HCL hsr m0 m1 m2 m3 m4 m5 q0 q1 q2 q3
          go_wp2_with (at_builtin; refine wpList_append_lies _ rfl _ _ 24 rfl (w4.heap.size + 1) 22 i0 (.slice none 0 0) 1 24 Try.underlying24 hi hz0 hz1 hz2 rfl (by decide) (.slice ac k qc) k vs rfl HV.out.1 ⟨w6.heap.size, 0, none⟩ 1 1 [.slice (some ⟨g6, 0, none⟩) c.rooms.length c6] rfl rfl (cell_one_new _ _ _) (fun y hy => by simp at hy; subst hy; rfl) (by decide) (by unfold maxLen; omega) (by omega) (by simp; omega) (w6.heap.size + 1) (by simp) ?_; intro g9 c9 w9 hown9 hgrow9 _ _; have HG := Lib.hid (And.intro hown9 hgrow9); have hb9 : Below (w4.heap.size + 1) (w6.alloc (.cells #[.slice (some ⟨g6, 0, none⟩) c.rooms.length c6] 22)) w9 := below_grown (Below.refl _ _) hgrow9 (fun r hr => (HV.out.1.lt r hr).1) (by simp; omega); have hblk9 := (hb9.block w4.heap.size (by omega)).trans (keep (.cells #[.slice (some ⟨g6, 0, none⟩) c.rooms.length c6] 22) HV.out.2.2.2.2); have r0 := (cell_of_row w9 _ 0 _ _ _ hblk9).trans rfl; have rf0 := frozen_of_row w9 _ 0 _ _ hblk9; have HB9 := Lib.hid (And.intro hb9 hblk9); clear hown9 hgrow9 hb9 hblk9)
          have h7 : FindRel c 0 w4 (k + 1) (w9.setCell ⟨w4.heap.size, 0, none⟩ (.slice (some ⟨g9, 0, none⟩) (k + 1) c9)) := by
            obtain ⟨hvA, hv2, hown6', hbel6, hblk6⟩ := HV.out
            refine ⟨.slice (some ⟨g9, 0, none⟩) (k + 1) c9, lv, ?_, ?_, ?_, ?_⟩
            · rw [heap_setCell_same w9 _ 0 _ _ _ HB9.out.2]; rfl
            · rw [take_row (by rw [findT_len]; exact hkK), findT_row hkK, HF.out]
              refine OwnRows.set (rows_snoc (v := .slice ac k qc) (vs := vs) (by rw [HLK.out]; exact hvA) (fun j hj => ?_) (vr := .slice (some ⟨g6, 0, none⟩) c.rooms.length c6) ?_ (by rw [HLK.out]; exact HG.out.1) HG.out.2) (by simp)
              · rw [HLK.out] at hj
                exact (hv2 j hj).alloc _
              · rw [List.length_map, List.length_range]; exact hown6'.alloc _
            · have := HRL2.out
              rw [if_neg (by have := HN.out; omega)]
              rw [if_neg (by have := HN.out; omega)] at this
              exact this
            · exact ((hbel6.alloc hbel6.size _).trans (HB9.out.1.mono (by omega))).setCell (p := ⟨w4.heap.size, 0, none⟩) (Nat.le_refl _) _
          have H7 := Lib.hid h7
          clear h7 HV HG HB9 r0 rf0
          go_wp2_with fail
          go_roundw
          case rel => exact ⟨k + 1, by omega, by go_num, H7.out⟩
          case measure => simp [intOf]; omega
      · obtain rfl : k = N := by omega
        obtain ⟨vc, lv, hblk, hrows, hleft, hbel⟩ := HR.out
        have hkN := HN.out
        have hKl : ((findT c 0).take k) = findT c 0 := List.take_of_length_le (by rw [findT_len]; omega)
        rw [hKl] at hrows
        rw [if_pos hkN.symm] at hleft
        obtain ⟨ac, qc, rfl⟩ := hrows.slice
        obtain ⟨al, ql, rfl⟩ := owns_slice hleft
        have b0 := (cell_of_row wr _ 0 _ _ _ hblk).trans rfl
        have b1 := (cell_of_row wr _ 1 _ _ _ hblk).trans rfl
        have hsr := blk_on HS4.out hbel
        have k2 := frozen_of_row wr _ 0 _ _ hsr
        have k3 := frozen_of_row wr _ 1 _ _ hsr
        have HS5 := Lib.hid (And.intro hrows (And.intro hleft (And.intro hbel hsr)))
        have k0 := (cell_of_row wr _ 0 _ _ _ hsr).trans rfl
        have k1 := (cell_of_row wr _ 1 _ _ _ hsr).trans rfl
        clear hblk hrows hleft hbel hsr hkN hKl
        go_wp2_with fail
        obtain ⟨hrows, hleft, hbel, hsr⟩ := HS5.out
        have hlt4 : w.heap.size + 1 < w4.heap.size := (Array.getElem?_eq_some_iff.1 HS4.out).1
        have hx2 : moreX false = 0 := rfl
        refine bodyPost_ret (v := .tuple #[.agg #[.slice ac (findT c 0).length qc, .slice al c.rooms.length ql], .int .i64 0]) (by simp [results, Try.results67, go_sem, k0, k1, k2, k3]) rfl ⟨_, _, rfl, ?_, ?_, ?_⟩
        · exact ((hrows.set (by simp; omega)).set (by simp; omega)).rows (by rw [findT_len]; have := needsC_len HOK.out; omega) (findT_small HK.out (by decide))
        · rw [hx2]
          exact nums_of_owns (by rw [findL_len]; exact owns_set (owns_set hleft (by simp; omega)) (by simp; omega)) (findL_i64 HK.out (by decide)) (by rw [findL_len]; omega)
        · have h1 := HB4.out.trans (hbel.mono HB4.out.size)
          exact (h1.setCell (p := ⟨w.heap.size + 1, 0, none⟩) (Nat.le_succ _) _).setCell (p := ⟨w.heap.size + 1, 1, none⟩) (Nat.le_succ _) _
  · go_enter Try.func67, Try.ntmps67
    go_wp2_with fail
    refine HCK.out.mono ?_
    rintro e w1 ⟨p, rfl, hb1, hd⟩
    have HD := Lib.hid (And.intro hb1 hd)
    clear hb1 hd
    have hul := unionTo_lt (fun j _ => leftC_lt c o2 j) 6 (by omega)
    have HUL : Hid (unionN (leftC c) < 64) := hul
    obtain ⟨x0, x1, x2, x3⟩ := four_at (blk_on HX.out HD.out.1)
    clear hul
    go_wp2_with (first | (go_at_call 98; refine (left_any c p _ HD.out.2).mono ?_; rintro e w2 ⟨rfl, hb2⟩; have H2 := Lib.hid hb2; clear hb2) | (go_at_call 109; refine (union_any (leftC c) (fun j _ => leftC_lt c o2 j) _).mono ?_; rintro e w3 ⟨rfl, hb3⟩; have H3 := Lib.hid (H2.out.trans (hb3.mono H2.out.size)); have hX3 := blk_on (blk_on HX.out HD.out.1) H3.out; have HX3 := Lib.hid hX3; have HS3 := Lib.hid (blk_on (blk_on HS.out HD.out.1) H3.out); obtain ⟨y0, y1, y2, y3⟩ := four_at (keep (.cells #[.int .i64 361, .int .i64 (unionN (leftC c) : Nat)] 154) hX3); clear hb3 hX3 x0 x1 x2 x3))
    have hbS : Below w1.heap.size w1 ((w3.alloc (.cells #[.int .i64 361, .int .i64 (unionN (leftC c) : Nat)] 154)).alloc (.cells #[.int .i64 361, .int .i64 (unionN (leftC c) : Nat)] 154)) := (H3.out.alloc H3.out.size _).alloc (by have := H3.out.size; simp; omega) _
    have hb3S : Below w3.heap.size w3 ((w3.alloc (.cells #[.int .i64 361, .int .i64 (unionN (leftC c) : Nat)] 154)).alloc (.cells #[.int .i64 361, .int .i64 (unionN (leftC c) : Nat)] 154)) := ((Below.refl _ _).alloc (Nat.le_refl _) _).alloc (by simp) _
    refine (share_any c p c.rooms _ _ [(361, ((unionN (leftC c) : Nat) : Int))] _ (HD.out.2.below hbS) (((HRI.out.on HB.out).on HD.out.1).on hbS) o2 (.inr ⟨w3.heap.size + 1, 1, 361, unionN (leftC c), rfl, rfl, by simp [go_sem], by simp [go_sem], by simp, HUL.out, by constructor <;> decide⟩)).mono ?_
    rintro e w4 ⟨s, g, nv, rfl, hst, hb4, hsz4⟩
    have HST := Lib.hid hst
    have HX4 := Lib.hid (blk_on (blk_on HX3.out hb3S) hb4)
    have HS4 := Lib.hid (blk_on (blk_on HS3.out hb3S) hb4)
    have HB4 := Lib.hid (HB.out.trans ((HD.out.1.trans ((hbS.trans (hb4.mono hbS.size)).mono HD.out.1.size)).mono HB.out.size))
    obtain ⟨N, hN⟩ : ∃ N, (needsC c).length + 1 = N := ⟨_, rfl⟩
    have hlen : (needsC c ++ [((361 : Int), ((unionN (leftC c) : Nat) : Int))]).length = N := by rw [← hN]; simp
    have hgv : GivAt w4 g N (findX c 361).giv := by have := hst.giv; rw [hlen] at this; exact this
    have hsl : w4.cell? ⟨s, 7, none⟩ = some (.slice (some ⟨g, 0, none⟩) N N) := by
      have := (cell_of_row w4 s 7 _ _ _ hst.stall).trans rfl
      rw [hlen] at this; exact this
    have hslt : s < w4.heap.size := hst.lt.1
    have hglt : g < w4.heap.size := hst.lt.2
    have hsl' := (((Below.refl w4.heap.size w4).alloc (Nat.le_refl _) (.cells #[.slice none 0 0, .slice none 0 0] 55)).cell (p := ⟨s, 7, none⟩) hslt).trans hsl
    have HGV := Lib.hid (And.intro hgv (And.intro hsl (And.intro hslt hglt)))
    have HN := Lib.hid hN
    have hN40 : N ≤ 37 := by have := needsC_len HOK.out; omega
    obtain ⟨i0, hi, hz0, hz1, hz2⟩ := info_parts infoRow
    clear hst hb4 hsz4 hlen hgv hsl hslt hN hbS hb3S y0 y1 y2 y3 HST HCK
    go_wp2_with fail
    obtain ⟨W5, hW5⟩ : ∃ W5, w4.alloc (.cells #[.slice none 0 0, .slice none 0 0] 55) = W5 := ⟨_, rfl⟩
    have h5 : FindRel c 361 w4 0 W5 := by
      rw [← hW5]
      refine ⟨.slice none 0 0, .slice none 0 0, heap_alloc_new _ _, ⟨[], World.ownsRow_nil _ _ _ _, fun j hj => by simp at hj⟩, ?_, (Below.refl _ _).alloc (Nat.le_refl _) _⟩
      rw [if_neg (by omega)]
    have H5 := Lib.hid h5
    rw [hW5] at hsl' ⊢
    clear hW5 h5 hsl'
    go_loopw [50] (fun i wr => ∃ k : Nat, k ≤ N ∧ i = .int .i64 k ∧ Hid (FindRel c 361 w4 k wr)) (fun i _ => N - (intOf i).toNat)
    case atStart => exact ⟨0, Nat.zero_le _, rfl, H5⟩
    case round =>
      obtain ⟨k, hk, rfl, HR⟩ := hrel
      by_cases hlt : k < N
      · have hki : (k : Int) < N := by omega
        obtain ⟨vc, lv, hblk, hrows, hleft, hbel⟩ := HR.out
        obtain ⟨ac, qc, rfl⟩ := hrows.slice
        have m := fun j (hj : j < 6) => (hbel.cell (p := ⟨g, k * 6 + j, none⟩) HGV.out.2.2.2).trans (HGV.out.1.cell k j hlt hj)
        have hI : ∀ j, j < 6 → I64 ((findX c 361).giv k j) := fun j hj => find_i64 HK.out (by decide) (by have := HN.out; omega) hj
        obtain ⟨f, hf⟩ : ∃ f, (findX c 361).giv k = f := ⟨_, rfl⟩
        rw [hf] at m hI
        have m0 := m 0 (by omega); have m1 := m 1 (by omega); have m2 := m 2 (by omega); have m3 := m 3 (by omega); have m4 := m 4 (by omega); have m5 := m 5 (by omega)
        rw [Nat.add_zero] at m0
        have hsr := (hbel.cell (p := ⟨s, 7, none⟩) HGV.out.2.2.1).trans HGV.out.2.1
        have hxr := blk_on HX4.out hbel
        obtain ⟨q0, q1, q2, q3⟩ := four_at (keep (.cells #[.int .i64 (f 0), .int .i64 (f 1), .int .i64 (f 2), .int .i64 (f 3), .int .i64 (f 4), .int .i64 (f 5)] 179) hxr)
        have hlr : (findT c 361).take k = (findT c 361).take k := rfl
        have hcl := clone_any ((List.range c.rooms.length).map f) _ (wr.alloc (.cells #[.int .i64 (f 0), .int .i64 (f 1), .int .i64 (f 2), .int .i64 (f 3), .int .i64 (f 4), .int .i64 (f 5)] 179)) (six_ints (heap_alloc_new _ _) o2 (fun j hj => hI j (by omega))) (by simp; omega) (by have := HOK.out.houses.1; simp; omega)
        simp only [List.length_map, List.length_range] at hcl
        have HCL := Lib.hid hcl
        have HF := Lib.hid hf
        have hr6 : (c.rooms.length : Int) ≤ 6 := by omega
        have hr0 : (0 : Int) ≤ (c.rooms.length : Int) := by omega
        have HRL := Lib.hid (And.intro hblk (And.intro hrows (And.intro hleft hbel)))
        have HRL2 := Lib.hid hleft
        clear m hI hf hxr hcl hblk hrows hleft hbel hlr
        go_wp2_with fail
        refine HCL.out.mono ?_
        rintro e w6 ⟨g6, c6, rfl, hown6, hb6, hg6⟩
        have hbW : Below wr.heap.size wr w6 := ((Below.refl _ _).alloc (Nat.le_refl _) _).trans (hb6.mono (by simp))
        obtain ⟨hblk, hrows, hleft, hbel⟩ := HRL.out
        have hbel6 := hbel.trans (hbW.mono hbel.size)
        have hblk6 := blk_on hblk hbW
        have b0 := (cell_of_row w6 _ 0 _ _ _ hblk6).trans rfl
        have b1 := (cell_of_row w6 _ 1 _ _ _ hblk6).trans rfl
        have f0 := frozen_of_row w6 _ 0 _ _ hblk6
        have f1 := frozen_of_row w6 _ 1 _ _ hblk6
        have hs6 := (hbel6.cell (p := ⟨s, 7, none⟩) HGV.out.2.2.1).trans HGV.out.2.1
        have hown6' : w6.ownsRow (w4.heap.size + 1) 3 1 (.slice (some ⟨g6, 0, none⟩) c.rooms.length c6) c.rooms.length (intsV ((List.range c.rooms.length).map f)) := owns_base hown6 (by have := hbel.size; have := (Array.getElem?_eq_some_iff.1 hblk).1; simp; omega)
        have hB14 : w4.heap.size < wr.heap.size := (Array.getElem?_eq_some_iff.1 hblk).1
        have hrows6 := hrows.below hbW
        have hlk : ((findT c 361).take k).length = k := by rw [List.length_take, findT_len]; have := HN.out; omega
        rw [hlk] at b0 hblk6 hrows6
        by_cases e : k + 1 = N
        · have he : ((k : Int) == (N : Int) - 1) = true := by simp; omega
          have h7 : FindRel c 361 w4 (k + 1) (w6.setCell ⟨w4.heap.size, 1, none⟩ (.slice (some ⟨g6, 0, none⟩) c.rooms.length c6)) := by
            have hKk : k = (needsC c).length := by have := HN.out; omega
            refine ⟨.slice ac k qc, .slice (some ⟨g6, 0, none⟩) c.rooms.length c6, ?_, ?_, ?_, hbel6.setCell (p := ⟨w4.heap.size, 1, none⟩) (Nat.le_refl _) _⟩
            · rw [heap_setCell_same w6 _ 1 _ _ _ hblk6]; rfl
            · have e1 : (findT c 361).take (k + 1) = (findT c 361).take k := by rw [List.take_of_length_le (by rw [findT_len]; omega), List.take_of_length_le (by rw [findT_len]; omega)]
              rw [e1]; exact OwnRows.set hrows6 (by simp)
            · rw [if_pos (by omega)]
              have e2 : intsV (findL c 361) = intsV ((List.range c.rooms.length).map f) := by unfold findL; rw [← hKk, HF.out]
              rw [e2]; exact owns_set hown6' (by simp)
          have H7 := Lib.hid h7
          clear h7 hown6 hb6 hg6 hbW hblk hrows hleft hbel hbel6 hblk6 hown6' hrows6 hlk HRL HCL hsr m0 m1 m2 m3 m4 m5 q0 q1 q2 q3
          go_wp2_with fail
          go_roundw
          case rel => exact ⟨k + 1, by omega, by go_num, H7.out⟩
          case measure => simp [intOf]; omega
        · have he : ((k : Int) == (N : Int) - 1) = false := by simp; omega
          have hkK : k < (needsC c).length := by have := HN.out; omega
          obtain ⟨vs, hv1, hv2⟩ := hrows6
          rw [hlk] at hv1 hv2
          have hvA := hv1.alloc (.cells #[.slice (some ⟨g6, 0, none⟩) c.rooms.length c6] 22)
          have HV := Lib.hid (And.intro hvA (And.intro hv2 (And.intro hown6' (And.intro hbel6 hblk6))))
          have HLK := Lib.hid hlk
          have hsz6 : w4.heap.size + 1 ≤ w6.heap.size := by have := hbW.size; omega
          clear hown6 hb6 hg6 hbW hblk hrows hleft hbel hbel6 hblk6 hown6' hlk hvA hv1 hv2 HRL HCL hsr m0 m1 m2 m3 m4 m5 q0 q1 q2 q3
          go_wp2_with (at_builtin; refine wpList_append_lies _ rfl _ _ 24 rfl (w4.heap.size + 1) 22 i0 (.slice none 0 0) 1 24 Try.underlying24 hi hz0 hz1 hz2 rfl (by decide) (.slice ac k qc) k vs rfl HV.out.1 ⟨w6.heap.size, 0, none⟩ 1 1 [.slice (some ⟨g6, 0, none⟩) c.rooms.length c6] rfl rfl (cell_one_new _ _ _) (fun y hy => by simp at hy; subst hy; rfl) (by decide) (by unfold maxLen; omega) (by omega) (by simp; omega) (w6.heap.size + 1) (by simp) ?_; intro g9 c9 w9 hown9 hgrow9 _ _; have HG := Lib.hid (And.intro hown9 hgrow9); have hb9 : Below (w4.heap.size + 1) (w6.alloc (.cells #[.slice (some ⟨g6, 0, none⟩) c.rooms.length c6] 22)) w9 := below_grown (Below.refl _ _) hgrow9 (fun r hr => (HV.out.1.lt r hr).1) (by simp; omega); have hblk9 := (hb9.block w4.heap.size (by omega)).trans (keep (.cells #[.slice (some ⟨g6, 0, none⟩) c.rooms.length c6] 22) HV.out.2.2.2.2); have r0 := (cell_of_row w9 _ 0 _ _ _ hblk9).trans rfl; have rf0 := frozen_of_row w9 _ 0 _ _ hblk9; have HB9 := Lib.hid (And.intro hb9 hblk9); clear hown9 hgrow9 hb9 hblk9)
          have h7 : FindRel c 361 w4 (k + 1) (w9.setCell ⟨w4.heap.size, 0, none⟩ (.slice (some ⟨g9, 0, none⟩) (k + 1) c9)) := by
            obtain ⟨hvA, hv2, hown6', hbel6, hblk6⟩ := HV.out
            refine ⟨.slice (some ⟨g9, 0, none⟩) (k + 1) c9, lv, ?_, ?_, ?_, ?_⟩
            · rw [heap_setCell_same w9 _ 0 _ _ _ HB9.out.2]; rfl
            · rw [take_row (by rw [findT_len]; exact hkK), findT_row hkK, HF.out]
              refine OwnRows.set (rows_snoc (v := .slice ac k qc) (vs := vs) (by rw [HLK.out]; exact hvA) (fun j hj => ?_) (vr := .slice (some ⟨g6, 0, none⟩) c.rooms.length c6) ?_ (by rw [HLK.out]; exact HG.out.1) HG.out.2) (by simp)
              · rw [HLK.out] at hj
                exact (hv2 j hj).alloc _
              · rw [List.length_map, List.length_range]; exact hown6'.alloc _
            · have := HRL2.out
              rw [if_neg (by have := HN.out; omega)]
              rw [if_neg (by have := HN.out; omega)] at this
              exact this
            · exact ((hbel6.alloc hbel6.size _).trans (HB9.out.1.mono (by omega))).setCell (p := ⟨w4.heap.size, 0, none⟩) (Nat.le_refl _) _
          have H7 := Lib.hid h7
          clear h7 HV HG HB9 r0 rf0
          go_wp2_with fail
          go_roundw
          case rel => exact ⟨k + 1, by omega, by go_num, H7.out⟩
          case measure => simp [intOf]; omega
      · obtain rfl : k = N := by omega
        obtain ⟨vc, lv, hblk, hrows, hleft, hbel⟩ := HR.out
        have hkN := HN.out
        have hKl : ((findT c 361).take k) = findT c 361 := List.take_of_length_le (by rw [findT_len]; omega)
        rw [hKl] at hrows
        rw [if_pos hkN.symm] at hleft
        obtain ⟨ac, qc, rfl⟩ := hrows.slice
        obtain ⟨al, ql, rfl⟩ := owns_slice hleft
        have b0 := (cell_of_row wr _ 0 _ _ _ hblk).trans rfl
        have b1 := (cell_of_row wr _ 1 _ _ _ hblk).trans rfl
        have hsr := blk_on HS4.out hbel
        have k2 := frozen_of_row wr _ 0 _ _ hsr
        have k3 := frozen_of_row wr _ 1 _ _ hsr
        have HS5 := Lib.hid (And.intro hrows (And.intro hleft (And.intro hbel hsr)))
        have k0 := (cell_of_row wr _ 0 _ _ _ hsr).trans rfl
        have k1 := (cell_of_row wr _ 1 _ _ _ hsr).trans rfl
        clear hblk hrows hleft hbel hsr hkN hKl
        go_wp2_with fail
        obtain ⟨hrows, hleft, hbel, hsr⟩ := HS5.out
        have hlt4 : w.heap.size + 1 < w4.heap.size := (Array.getElem?_eq_some_iff.1 HS4.out).1
        have hx2 : moreX true = 361 := rfl
        refine bodyPost_ret (v := .tuple #[.agg #[.slice ac (findT c 361).length qc, .slice al c.rooms.length ql], .int .i64 0]) (by simp [results, Try.results67, go_sem, k0, k1, k2, k3]) rfl ⟨_, _, rfl, ?_, ?_, ?_⟩
        · exact ((hrows.set (by simp; omega)).set (by simp; omega)).rows (by rw [findT_len]; have := needsC_len HOK.out; omega) (findT_small HK.out (by decide))
        · rw [hx2]
          exact nums_of_owns (by rw [findL_len]; exact owns_set (owns_set hleft (by simp; omega)) (by simp; omega)) (findL_i64 HK.out (by decide)) (by rw [findL_len]; omega)
        · have h1 := HB4.out.trans (hbel.mono HB4.out.size)
          exact (h1.setCell (p := ⟨w.heap.size + 1, 0, none⟩) (Nat.le_succ _) _).setCell (p := ⟨w.heap.size + 1, 1, none⟩) (Nat.le_succ _) _
end Go.Proofs.Ytnhifinfjfpoiaa
