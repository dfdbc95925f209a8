/- RatCounts holds: for every colony and everything that is asked as a truth the law answers true, and what came in reads as it read before. No condition is laid on the arguments beyond the form's own reach. -/
import Derived.Test.YtnhifinfjfpoiaaJ16
import Derived.Test.YtnhifinfjfpoiaaJ13
import Derived.Test.YtnhifinfjfpoiaaJ19
import Derived.Test.YtnhifinfjfpoiaaJ15
import Derived.Test.YtnhifinfjfpoiaaJ18
import Derived.Test.YtnhifinfjfpoiaaRows
namespace Go.Proofs.Ytnhifinfjfpoiaa
open Go.RowKit Go.ChangeShapes Go.WideShapes Go.ChangeAt Go.Deep Go.Joins
set_option linter.unusedVariables false
variable {H : Type} {enc : TypeId × Value → H}

theorem truthCells : Try.prog.cellsOf 55 = 2 := by kernel_rfl
set_option maxRecDepth 100000 in
theorem open_truth {W : World} {base : Nat} {r : Reach} {v : Value} {d : DataW H} {p : List MemPlace} (hv : Value.okWide Try.prog W r base 55 v) (h : DataW.Trod enc Try.prog W 0 (fun _ => true) true 55 v d p) (hw : ∀ m ∈ d.weights Try.prog 55, m ≤ reachBytes) :
    ∃ t l T L, v = .agg #[t, l] ∧ IsRows W W.heap.size t T ∧ IsInts W W.heap.size l L := by
  obtain ⟨v0, v1, y0, y1, m, rfl, rfl, _, h0, h1⟩ := open_agg2 Try.underlying55 (by kernel_rfl) truthCells hv h
  simp only [DataW.weights, Try.underlying55, DataW.weightsEach, List.map_cons, List.map_nil, List.mem_append] at hw
  obtain ⟨a, ha⟩ := open_rows h0 (fun m hm => hw m (.inl hm))
  obtain ⟨b, hb⟩ := open_nums h1 (fun m hm => hw m (.inr (.inl hm)))
  exact ⟨v0, v1, a, b, rfl, ha, hb⟩
end Go.Proofs.Ytnhifinfjfpoiaa

namespace Go.Proofs.Ytnhifinfjfpoiaa
open Go.RowKit
set_option linter.unusedVariables false
set_option linter.unusedSimpArgs false

theorem below_alloc1 {W W' : World} {o : Obj} (h : Below (W.alloc o).heap.size (W.alloc o) W') : Below W.heap.size W W' := ((Below.refl _ _).alloc (Nat.le_refl _) _).trans (h.mono (by simp))
theorem neqs_Span (a b : Int) : ∀ w : World, (binOp .neq 49 (.agg #[.int .i64 a, .int .i64 b]) (.agg #[.int .i64 a, .int .i64 b])).run Try.prog w = .ok (.bool false) w := fun w => by
  rw [neq_Span]; simp
def ratsV (c : Col) : Int × Int := if fitErr c = 0 then ratsC c else (0, 0)
theorem rats_both (c : Col) (r t u n : Value) (w : World) (hc : ColAt w w.heap.size r t u n c) :
    (Calls Try.prog 41 #[.agg #[r, t, u, n]] w fun e w' => e = .returned (.tuple #[.agg #[.int .i64 (ratsV c).1, .int .i64 (ratsV c).2], .int .i64 (fitErr c)]) ∧ Below w.heap.size w w') ∧
    (Calls Try.prog 66 #[.agg #[r, t, u, n]] w fun e w' => e = .returned (.tuple #[.agg #[.int .i64 (ratsV c).1, .int .i64 (ratsV c).2], .int .i64 (fitErr c)]) ∧ Below w.heap.size w w') := by
  unfold ratsV
  by_cases q : fitErr c = 0
  · rw [if_pos q, q]
    exact ⟨Rats_ok c r t u n w hc q, rRats_ok c r t u n w hc q⟩
  · rw [if_neg q]
    exact ⟨Rats_bad c r t u n w hc q, rRats_bad c r t u n w hc q⟩
/-- The program's Fits, with every error. -/
theorem Fits_any (c : Col) (r t u n tv lv : Value) (T : List (List Int)) (L : List Int) (w : World) (hc : ColAt w w.heap.size r t u n c) (ht : IsRows w w.heap.size tv T) (hl : IsInts w w.heap.size lv L) :
    Calls Try.prog 72 #[.agg #[r, t, u, n], .agg #[tv, lv]] w (FitsPost c T L (fitsErr c T L) w) := by
  by_cases q : fitsErr c T L = 0
  · rw [q]
    exact (Fits_ok c r t u n tv lv T L w hc ht hl q).mono fun e w' ⟨b, h1, h2, h3⟩ => ⟨b, h1, fun _ => h2, fun h => absurd rfl h, h3⟩
  · exact (Fits_bad c r t u n tv lv T L w hc ht hl q).mono fun e w' ⟨h1, h2⟩ => ⟨false, h1, fun h => absurd h q, fun _ => rfl, h2⟩
theorem find_err {c : Col} (hk : fitErr c = 0) (x : Int) : fitsErr c (findT c x) (findL c x) = 0 := by
  have h1 := (fit_parts hk).1
  unfold fitsErr
  rw [if_pos h1, if_pos ⟨by rw [findT_len, needsC_mul], findL_len c x, allB_true fun i hi => by rw [findT_len] at hi; rw [findT_row hi]; simp⟩]

theorem find_bound {c : Col} (hk : fitErr c = 0) {x : Int} (hx : 0 ≤ x) {j : Nat} (hj : j < c.rooms.length) : (∀ k, k < (needsC c).length → 0 ≤ nth (nthR (findT c x) k) j ∧ nth (nthR (findT c x) k) j ≤ 1000) ∧ 0 ≤ nth (findL c x) j ∧ nth (findL c x) j ≤ 1000 := by
  have ok := okCol_of (fit_parts hk).1
  have g := find_good hk hx
  have d := ok.rooms6 j (by have := ok.houses.2; omega)
  have hj6 : j < 6 := by have := ok.houses.2; omega
  refine ⟨fun k hkl => ?_, ?_⟩
  · rw [findT_at hkl hj]
    have a := (g.le (o := k) (by omega) hj6).2
    have b := g.giv k j (by omega) hj6
    omega
  · rw [findL_at hj]
    have a := (g.le (o := (needsC c).length) (by omega) hj6).2
    have b := g.giv (needsC c).length j (by omega) hj6
    omega
theorem Find_okE (c : Col) (r t u n : Value) (m : Bool) (w : World) (hc : ColAt w w.heap.size r t u n c) (hk : fitErr c = 0) :
    Calls Try.prog 67 #[.agg #[r, t, u, n], .bool m] w fun e w' => ∃ tv lv, e = .returned (.tuple #[.agg #[tv, lv], .int .i64 (fitErr c)]) ∧ IsRows w' w'.heap.size tv (findT c (moreX m)) ∧ IsInts w' w'.heap.size lv (findL c (moreX m)) ∧ Below w.heap.size w w' :=
  (Find_ok c r t u n m w hc hk).mono fun e w' ⟨tv, lv, h1, h2⟩ => ⟨tv, lv, by rw [h1, hk], h2⟩
/-- A truth of one's own, and that which came in. -/
structure TruthAt (w W : World) (b7 : Nat) (tv lv t0 l0 : Value) (T : List (List Int)) (L : List Int) : Prop where
  own : W.heap[b7]? = some (.cells #[tv, lv] 55 (0, 0))
  box : W.heap[w.heap.size + 1]? = some (.cells #[t0, l0] 55 (0, 0))
  rows : IsRows W W.heap.size tv T
  left : IsInts W W.heap.size lv L
  rows0 : IsRows W W.heap.size t0 T
  left0 : IsInts W W.heap.size l0 L
theorem TruthAt.on {w W W' : World} {b7 : Nat} {tv lv t0 l0 : Value} {T : List (List Int)} {L : List Int} (h : TruthAt w W b7 tv lv t0 l0 T L) (hb : Below W.heap.size W W') : TruthAt w W' b7 tv lv t0 l0 T L :=
  ⟨blk_on h.own hb, blk_on h.box hb, h.rows.on hb, h.left.on hb, h.rows0.on hb, h.left0.on hb⟩
/-- A truth that is copied, and where it lies. -/
def MidTr (W0 : World) (T : List (List Int)) (L : List Int) (s7 : Value) (wx : World) : Prop :=
  ∃ (b : Nat) (tv lv : Value), s7 = .pointer (some ⟨b, 0, none⟩) ∧ wx.heap[b]? = some (.cells #[tv, lv] 55 (0, 0)) ∧ OwnRows wx W0.heap.size tv T ∧ wx.ownsRow W0.heap.size 3 1 lv L.length (intsV L) ∧ Below W0.heap.size W0 wx
theorem leafT_a {W0 W : World} {T : List (List Int)} {L : List Int} {tv lv : Value} (o1 : OwnRows W W0.heap.size tv T) (o2 : W.ownsRow W0.heap.size 3 1 lv L.length (intsV L)) (hB : Hid (Below W0.heap.size W0 W)) :
    MidTr W0 T L (.pointer (some ⟨W.heap.size, 0, none⟩)) (W.alloc (.cells #[tv, lv] 55)) :=
  have hb : Below W.heap.size W (W.alloc (.cells #[tv, lv] 55)) := (Below.refl _ _).alloc (Nat.le_refl _) _
  ⟨_, tv, lv, rfl, heap_alloc_new _ _, o1.below hb, owns_below o2 hb, hB.out.trans (hb.mono hB.out.size)⟩
theorem leafT_b {W0 W : World} {T : List (List Int)} {L : List Int} {tv lv : Value} {p : Nat} (o1 : OwnRows W W0.heap.size tv T) (o2 : W.ownsRow W0.heap.size 3 1 lv L.length (intsV L)) (hB : Hid (Below W0.heap.size W0 W)) (hp : W.heap[p]? = some (.cells #[.slice none 0 0, .slice none 0 0] 55 (0, 0))) (hp0 : W0.heap.size ≤ p) :
    MidTr W0 T L (.pointer (some ⟨p, 0, none⟩)) ((W.setCell ⟨p, 0, none⟩ tv).setCell ⟨p, 1, none⟩ lv) := by
  have h1 : (W.setCell ⟨p, 0, none⟩ tv).heap[p]? = some (.cells #[tv, .slice none 0 0] 55 (0, 0)) := by rw [heap_setCell_same W p 0 _ _ _ hp]; rfl
  refine ⟨p, tv, lv, rfl, by rw [heap_setCell_same _ p 1 _ _ _ h1]; rfl, (o1.set_ty hp (by decide) (by decide)).set_ty h1 (by decide) (by decide), owns_set_ty (owns_set_ty o2 hp (by decide)) h1 (by decide), (hB.out.setCell (p := ⟨p, 0, none⟩) hp0 _).setCell (p := ⟨p, 1, none⟩) hp0 _⟩

theorem wide_row {rows : List (List Int)} {m : Nat} (h : wideB rows m = false) : ∀ r ∈ rows, r.length ≤ m := by
  intro r hr
  obtain ⟨i, hi, rfl⟩ := List.mem_iff_getElem.1 hr
  have h1 : ¬ m < (nthR rows i).length := fun hlt => by
    have := anyB_true (p := fun i => decide (m < (nthR rows i).length)) hi (by simpa using hlt)
    unfold wideB at h
    rw [h] at this; cases this
  rw [nthR_eq hi] at h1
  omega
set_option maxRecDepth 100000 in
set_option maxHeartbeats 8000000 in
theorem ratCounts_any (c : Col) (r t u n tv lv : Value) (T : List (List Int)) (L : List Int) (w : World) (hc : ColAt w w.heap.size r t u n c) (ht : IsRows w w.heap.size tv T) (hh : IsInts w w.heap.size lv L) :
    Calls Try.prog 14 #[.agg #[r, t, u, n], .agg #[tv, lv]] w fun e w' => e = .returned (.bool true) ∧ Below w.heap.size w w' := by
  have hBW : Below w.heap.size w ((w.alloc (.cells #[r, t, u, n] 26)).alloc (.cells #[tv, lv] 55)) := ((Below.refl w.heap.size w).alloc (Nat.le_refl _) _).alloc (by simp) _
  have HLO := Lib.hid (long_any c r t u n _ (hc.on hBW))
  have HC := Lib.hid (hc.on hBW)
  have c0 : ((w.alloc (.cells #[r, t, u, n] 26)).alloc (.cells #[tv, lv] 55)).heap[w.heap.size]? = some (.cells #[r, t, u, n] 26 (0, 0)) := keep _ (blk _ _ _ _ rfl)
  have c1 : ((w.alloc (.cells #[r, t, u, n] 26)).alloc (.cells #[tv, lv] 55)).heap[w.heap.size + 1]? = some (.cells #[tv, lv] 55 (0, 0)) := blk _ _ _ _ (by simp)
  have HTT := Lib.hid (ht.on hBW)
  have HLL := Lib.hid (hh.on hBW)
  obtain ⟨hr, htr, hu, hn⟩ := hc
  have HI := Lib.hid (And.intro hr (And.intro htr (And.intro hu hn)))
  have HT64 := Lib.hid (rows_i64 ht)
  obtain ⟨ar, cr, rfl, _⟩ := hr.open
  obtain ⟨at_, ct, rfl, _⟩ := htr.open
  obtain ⟨au, cu, rfl, _⟩ := hu.open
  obtain ⟨an, cn, rfl, _⟩ := hn.open
  obtain ⟨aT, qT, rfl, _, T140, _⟩ := ht.open
  obtain ⟨aL, qL, rfl, _, L140, _⟩ := hh.open
  have HB := Lib.hid hBW
  have HX := Lib.hid c0
  have HY := Lib.hid c1
  clear hr htr hu hn ht hh hBW c0 c1
  have hcase : longB c = true ∨ (longB c = false ∧ 60 < T.length) ∨ (longB c = false ∧ ¬ 60 < T.length ∧ wideB T 8 = true) ∨ (longB c = false ∧ ¬ 60 < T.length ∧ wideB T 8 = false ∧ 8 < L.length) ∨ (longB c = false ∧ ¬ 60 < T.length ∧ wideB T 8 = false ∧ ¬ 8 < L.length) := by
    cases longB c
    · by_cases h1 : 60 < T.length
      · exact .inr (.inl ⟨rfl, h1⟩)
      · cases wideB T 8
        · by_cases h2 : 8 < L.length
          · exact .inr (.inr (.inr (.inl ⟨rfl, h1, rfl, h2⟩)))
          · exact .inr (.inr (.inr (.inr ⟨rfl, h1, rfl, h2⟩)))
        · exact .inr (.inr (.inl ⟨rfl, h1, rfl⟩))
    · exact .inl rfl
  rcases hcase with hl | ⟨hl, h60⟩ | ⟨hl, h60, hw⟩ | ⟨hl, h60, hw, h8⟩ | ⟨hl, h60, hw, h8⟩
  · as_aux_lemma =>
    rw [hl] at HLO
    clear hl
    go_enter Try.func14, Try.ntmps14
    go_wp2_with fail
    refine HLO.out.mono ?_
    rintro e w1 ⟨rfl, hb1⟩
    have HB1 := Lib.hid hb1
    clear hb1
    go_wp2_with fail
    refine (awake_any w1).mono ?_
    rintro e w2 ⟨rfl, hb2⟩
    go_wp2_with fail
    go_ret
    have h1 := HB.out.trans (HB1.out.mono HB.out.size)
    exact ⟨rfl, h1.trans (hb2.mono h1.size)⟩
  · as_aux_lemma =>
    rw [hl] at HLO
    have h60i : (60 : Int) < T.length := by omega
    clear hl
    go_enter Try.func14, Try.ntmps14
    go_wp2_with fail
    refine HLO.out.mono ?_
    rintro e w1 ⟨rfl, hb1⟩
    obtain ⟨y0, y1⟩ := truth_at (blk_on HY.out hb1)
    have HB1 := Lib.hid hb1
    clear hb1
    go_wp2_with fail
    refine (awake_any w1).mono ?_
    rintro e w2 ⟨rfl, hb2⟩
    go_wp2_with fail
    go_ret
    have h1 := HB.out.trans (HB1.out.mono HB.out.size)
    exact ⟨rfl, h1.trans (hb2.mono h1.size)⟩
  · as_aux_lemma =>
    rw [hl] at HLO
    have h60i : ¬ (60 : Int) < T.length := by omega
    clear hl
    go_enter Try.func14, Try.ntmps14
    go_wp2_with fail
    refine HLO.out.mono ?_
    rintro e w1 ⟨rfl, hb1⟩
    obtain ⟨y0, y1⟩ := truth_at (blk_on HY.out hb1)
    have HB1 := Lib.hid hb1
    clear hb1
    have HWD := Lib.hid (wide_any T 8 _ w1 (HTT.out.on HB1.out))
    rw [hw] at HWD
    clear hw
    go_wp2_with (go_at_call 64; refine HWD.out.mono ?_; rintro e w' ⟨rfl, rfl⟩)
    refine (awake_any w1).mono ?_
    rintro e w2 ⟨rfl, hb2⟩
    go_wp2_with fail
    go_ret
    have h1 := HB.out.trans (HB1.out.mono HB.out.size)
    exact ⟨rfl, h1.trans (hb2.mono h1.size)⟩
  · as_aux_lemma =>
    rw [hl] at HLO
    have h60i : ¬ (60 : Int) < T.length := by omega
    have h8i : (8 : Int) < L.length := by omega
    clear hl
    go_enter Try.func14, Try.ntmps14
    go_wp2_with fail
    refine HLO.out.mono ?_
    rintro e w1 ⟨rfl, hb1⟩
    obtain ⟨y0, y1⟩ := truth_at (blk_on HY.out hb1)
    have HB1 := Lib.hid hb1
    clear hb1
    have HWD := Lib.hid (wide_any T 8 _ w1 (HTT.out.on HB1.out))
    rw [hw] at HWD
    clear hw
    go_wp2_with (go_at_call 64; refine HWD.out.mono ?_; rintro e w' ⟨rfl, rfl⟩)
    refine (awake_any w1).mono ?_
    rintro e w2 ⟨rfl, hb2⟩
    go_wp2_with fail
    go_ret
    have h1 := HB.out.trans (HB1.out.mono HB.out.size)
    exact ⟨rfl, h1.trans (hb2.mono h1.size)⟩
  · rw [hl] at HLO
    have HSH := Lib.hid (short_of hl HI.out.1.2 HI.out.2.1.2 HI.out.2.2.1.2 (rows_i64 HI.out.2.2.2))
    have h60i : ¬ (60 : Int) < T.length := by omega
    have h8i : ¬ (8 : Int) < L.length := by omega
    have HWW := Lib.hid hw
    clear hl HI hw
    go_enter Try.func14, Try.ntmps14
    go_wp2_with fail
    refine HLO.out.mono ?_
    rintro e W0 ⟨rfl, hb0⟩
    have H0 := Lib.hid hb0
    obtain ⟨y0, y1⟩ := truth_at (blk_on HY.out hb0)
    have HWD := Lib.hid (wide_any T 8 _ W0 (HTT.out.on hb0))
    rw [HWW.out] at HWD
    clear hb0
    go_upto_region 3 with (go_at_call 64; refine HWD.out.mono ?_; rintro e w' ⟨rfl, rfl⟩)
    clear y0 y1 HWD
    have b0 := blk_on HX.out H0.out
    have hlt := (Array.getElem?_eq_some_iff.1 b0).1
    have hS : BoxK W0 w.heap.size (.slice ar c.rooms.length cr) (.slice at_ c.traps.length ct) (.slice au c.runs.length cu) (.slice an c.nights.length cn) (W0.drewN 1) := BoxK.of b0 1
    have HLT := Lib.hid hlt
    have hcw : ∀ W, Hid (Below W0.heap.size W0 W) → ColAt W W.heap.size (.slice ar c.rooms.length cr) (.slice at_ c.traps.length ct) (.slice au c.runs.length cu) (.slice an c.nights.length cn) c := fun W hW => (HC.out.on H0.out).on hW.out
    have HOWN : Hid (∀ W, Hid (Below W0.heap.size W0 W) → Calls Try.prog 18 #[.agg #[.slice ar c.rooms.length cr, .slice at_ c.traps.length ct, .slice au c.runs.length cu, .slice an c.nights.length cn]] W fun e w' => ∃ r' t' u' n', e = .returned (.agg #[r', t', u', n']) ∧ OwnCol w' W.heap.size r' t' u' n' c ∧ Below W.heap.size W w' ∧ W0.heap.size ≤ W.heap.size) := fun W hW => (own_any c _ _ _ _ W (hcw W hW) HSH.out).mono fun _ _ ⟨a, b, d, e, h1, h2, h3⟩ => ⟨a, b, d, e, h1, h2, h3, hW.out.size⟩
    have HTHE : Hid (∀ W, Hid (Below W0.heap.size W0 W) → Calls Try.prog 19 #[.agg #[.slice ar c.rooms.length cr, .slice at_ c.traps.length ct, .slice au c.runs.length cu, .slice an c.nights.length cn]] W fun e w' => ∃ r' t' u' n', e = .returned (.agg #[r', t', u', n']) ∧ RefCol w' W.heap.size r' t' u' n' c ∧ Below W.heap.size W w' ∧ W0.heap.size ≤ W.heap.size) := fun W hW => (theirs_any c _ _ _ _ W (hcw W hW) HSH.out).mono fun _ _ ⟨a, b, d, e, h1, h2, h3⟩ => ⟨a, b, d, e, h1, h2, h3, hW.out.size⟩
    have hS' : W0.drew.cell? ⟨w.heap.size, 0, none⟩ = some (.slice ar c.rooms.length cr) ∧ W0.drew.cell? ⟨w.heap.size, 1, none⟩ = some (.slice at_ c.traps.length ct) ∧ W0.drew.cell? ⟨w.heap.size, 2, none⟩ = some (.slice au c.runs.length cu) ∧ W0.drew.cell? ⟨w.heap.size, 3, none⟩ = some (.slice an c.nights.length cn) ∧ Hid (Below W0.heap.size W0 W0.drew) := hS
    have HSS := Lib.hid hS'
    clear b0 hlt hS hcw
    have hsz0 : ∀ o, (W0.alloc o).drew.heap.size = W0.heap.size + 1 := fun o => World.size_alloc W0 o
    have hsz1 : ∀ o o2, ((W0.alloc o).alloc o2).drew.heap.size = W0.heap.size + 1 + 1 := fun o o2 => by rw [← World.size_alloc W0 o]; exact World.size_alloc (W0.alloc o) o2
    go_cut [5, 6] (fun s7 s8 wx => MidP W0 c s7 s8 wx)
    case first =>
      go_region_held3 (fun w' => w'.cell? ⟨w.heap.size, 0, none⟩ = some (.slice ar c.rooms.length cr) ∧ w'.cell? ⟨w.heap.size, 1, none⟩ = some (.slice at_ c.traps.length ct) ∧ w'.cell? ⟨w.heap.size, 2, none⟩ = some (.slice au c.runs.length cu) ∧ w'.cell? ⟨w.heap.size, 3, none⟩ = some (.slice an c.nights.length cn) ∧ Hid (Below W0.heap.size W0 w')) (first | with_reducible assumption | with_reducible exact BoxK.alloc HLT.out (BoxK.alloc HLT.out HS2.out) | with_reducible exact BoxK.alloc HLT.out HS2.out | with_reducible exact BoxK.alloc HLT.out (BoxK.store HLT.out (by first | omega | (simp; omega)) HS2.out) | with_reducible exact BoxK.store HLT.out (by first | omega | (simp; omega)) (BoxK.store HLT.out (by first | omega | (simp; omega)) HS2.out) | with_reducible exact BoxK.store HLT.out (by first | omega | (simp; omega)) HS2.out | with_reducible exact BoxK.below HLT.out (by assumption) (by assumption) | with_reducible exact BoxK.alloc HLT.out (BoxK.alloc HLT.out HS1.out) | with_reducible exact BoxK.alloc HLT.out HS1.out | with_reducible exact BoxK.allocD HLT.out (by assumption) | with_reducible exact BoxK.allocDD HLT.out (by assumption) | fail) (first | (go_at_call 18; (with_reducible refine (HOWN.out _ (by exact (by assumption : _ ∧ _ ∧ _ ∧ _ ∧ Hid _).2.2.2.2)).mono ?_); rintro e w1 ⟨r1, t1, u1, n1, rfl, hx1, hb1, hz1⟩; obtain ⟨a11, q11, a12, q12, a13, q13, a14, q14, rfl, rfl, rfl, rfl⟩ := hx1.slices; obtain ⟨hcb1, hfb1⟩ := bcell hb1; have m1 := hb1.size; (try rw [hsz0] at m1); (try rw [hsz1] at m1); (try have k1 : W0.heap.size < w1.heap.size := by omega); (try have j1 : W0.heap.size + 1 < w1.heap.size := by omega); have l1 : ∀ x, x < _ → x < w1.heap.size := fun x hx => Nat.lt_of_lt_of_le hx m1; have HX1 := Lib.hid hx1; have HS1 := Lib.hid (BoxK.below HLT.out hb1 (by assumption)); clear hx1) | (go_at_call 19; (with_reducible refine (HTHE.out _ (by exact (by assumption : _ ∧ _ ∧ _ ∧ _ ∧ Hid _).2.2.2.2)).mono ?_); rintro e w2 ⟨r2, t2, u2, n2, rfl, hx2, hb2, hz2⟩; obtain ⟨a21, q21, a22, q22, a23, q23, a24, q24, rfl, rfl, rfl, rfl⟩ := hx2.slices; obtain ⟨hcb2, hfb2⟩ := bcell hb2; have m2 := hb2.size; (try rw [hsz0] at m2); (try rw [hsz1] at m2); (try have k2 : W0.heap.size < w2.heap.size := by omega); (try have j2 : W0.heap.size + 1 < w2.heap.size := by omega); have l2 : ∀ x, x < _ → x < w2.heap.size := fun x hx => Nat.lt_of_lt_of_le hx m2; have HX2 := Lib.hid hx2; have HS2 := Lib.hid (BoxK.below HLT.out hb2 (by assumption)); clear hx2))
      all_goals
        have hB1 : Below W0.heap.size W0 w1 := HS1.out.2.2.2.2.out
        have hB2 : Below W0.heap.size W0 w2 := HS2.out.2.2.2.2.out
        have o1 := HX1.out.base hz1
        have o2 := HX2.out.base' hz2
        have o1b : OwnCol w2 W0.heap.size (.slice a11 c.rooms.length q11) (.slice a12 c.traps.length q12) (.slice a13 c.runs.length q13) (.slice a14 c.nights.length q14) c := by first | exact o1.below hb2 | exact o1.below (((Below.refl _ _).alloc (Nat.le_refl _) _).trans (hb2.mono (by simp))) | exact o1.below ((((Below.refl _ _).alloc (Nat.le_refl _) _).alloc (by simp) _).trans (hb2.mono (by simp; omega)))
        have n2 := hB2.size
        have n1 := hB1.size
        clear hcb1 hcb2 hfb1 hfb2 l1 l2 hB1
      · have HF := Lib.hid (leaf_aa o1b o2 hB2)
        clear o1 o2 o1b hB2 hb1 hb2 hz1 hz2
        go_wp2_with fail
        go_meet
        exact HF.out
      · have HF := Lib.hid (leaf_aa' o1b o2 hB2)
        clear o1 o2 o1b hB2 hb1 hb2 hz1 hz2
        go_wp2_with fail
        go_meet
        exact HF.out
      · have hp : w2.heap[w1.heap.size]? = some (.cells Z4 26 (0, 0)) := (by first | exact blk_on (heap_alloc_new _ _) hb2 | exact blk_on (keep _ (heap_alloc_new _ _)) hb2 | exact blk_on (blk _ _ _ _ (by simp)) hb2 | exact blk_on (blk_on (blkD _ _ _ _ rfl) hb1) hb2 | exact blk_on (keep _ (blk_on (blkD _ _ _ _ rfl) hb1)) hb2 | exact blk_on (blk_on (keepD _ (heap_alloc_new _ _)) hb1) hb2 | exact blk_on (blk_on (blkD _ _ _ _ (by simp)) hb1) hb2)
        have HF := Lib.hid (leaf_ba o1b o2 hB2 hp (by omega))
        clear o1 o2 o1b hB2 hb1 hb2 hz1 hz2 hp
        go_wp2_with fail
        go_meet
        exact HF.out
      · have hp : w2.heap[w1.heap.size]? = some (.cells Z4 26 (0, 0)) := (by first | exact blk_on (heap_alloc_new _ _) hb2 | exact blk_on (keep _ (heap_alloc_new _ _)) hb2 | exact blk_on (blk _ _ _ _ (by simp)) hb2 | exact blk_on (blk_on (blkD _ _ _ _ rfl) hb1) hb2 | exact blk_on (keep _ (blk_on (blkD _ _ _ _ rfl) hb1)) hb2 | exact blk_on (blk_on (keepD _ (heap_alloc_new _ _)) hb1) hb2 | exact blk_on (blk_on (blkD _ _ _ _ (by simp)) hb1) hb2)
        have hq : w2.heap[w1.heap.size + 1]? = some (.cells Z4 32 (0, 0)) := (by first | exact blk_on (heap_alloc_new _ _) hb2 | exact blk_on (keep _ (heap_alloc_new _ _)) hb2 | exact blk_on (blk _ _ _ _ (by simp)) hb2 | exact blk_on (blk_on (blkD _ _ _ _ rfl) hb1) hb2 | exact blk_on (keep _ (blk_on (blkD _ _ _ _ rfl) hb1)) hb2 | exact blk_on (blk_on (keepD _ (heap_alloc_new _ _)) hb1) hb2 | exact blk_on (blk_on (blkD _ _ _ _ (by simp)) hb1) hb2)
        have HF := Lib.hid (leaf_bb o1b o2 hB2 hp (by omega) hq (by omega))
        clear o1 o2 o1b hB2 hb1 hb2 hz1 hz2 hp hq
        go_wp2_with fail
        go_meet
        exact HF.out
      · have hq : w2.heap[w1.heap.size]? = some (.cells Z4 32 (0, 0)) := (by first | exact blk_on (heap_alloc_new _ _) hb2 | exact blk_on (keep _ (heap_alloc_new _ _)) hb2 | exact blk_on (blk _ _ _ _ (by simp)) hb2 | exact blk_on (blk_on (blkD _ _ _ _ rfl) hb1) hb2 | exact blk_on (keep _ (blk_on (blkD _ _ _ _ rfl) hb1)) hb2 | exact blk_on (blk_on (keepD _ (heap_alloc_new _ _)) hb1) hb2 | exact blk_on (blk_on (blkD _ _ _ _ (by simp)) hb1) hb2)
        have HF := Lib.hid (leaf_ab o1b o2 hB2 hq (by omega))
        clear o1 o2 o1b hB2 hb1 hb2 hz1 hz2 hq
        go_wp2_with fail
        go_meet
        exact HF.out
      · have hp : w2.heap[w1.heap.size + 1]? = some (.cells Z4 26 (0, 0)) := (by first | exact blk_on (heap_alloc_new _ _) hb2 | exact blk_on (keep _ (heap_alloc_new _ _)) hb2 | exact blk_on (blk _ _ _ _ (by simp)) hb2 | exact blk_on (blk_on (blkD _ _ _ _ rfl) hb1) hb2 | exact blk_on (keep _ (blk_on (blkD _ _ _ _ rfl) hb1)) hb2 | exact blk_on (blk_on (keepD _ (heap_alloc_new _ _)) hb1) hb2 | exact blk_on (blk_on (blkD _ _ _ _ (by simp)) hb1) hb2)
        have hq : w2.heap[w1.heap.size]? = some (.cells Z4 32 (0, 0)) := (by first | exact blk_on (heap_alloc_new _ _) hb2 | exact blk_on (keep _ (heap_alloc_new _ _)) hb2 | exact blk_on (blk _ _ _ _ (by simp)) hb2 | exact blk_on (blk_on (blkD _ _ _ _ rfl) hb1) hb2 | exact blk_on (keep _ (blk_on (blkD _ _ _ _ rfl) hb1)) hb2 | exact blk_on (blk_on (keepD _ (heap_alloc_new _ _)) hb1) hb2 | exact blk_on (blk_on (blkD _ _ _ _ (by simp)) hb1) hb2)
        have HF := Lib.hid (leaf_bb o1b o2 hB2 hp (by omega) hq (by omega))
        clear o1 o2 o1b hB2 hb1 hb2 hz1 hz2 hp hq
        go_wp2_with fail
        go_meet
        exact HF.out
      · have hp : w2.heap[W0.heap.size]? = some (.cells Z4 26 (0, 0)) := (by first | exact blk_on (heap_alloc_new _ _) hb2 | exact blk_on (keep _ (heap_alloc_new _ _)) hb2 | exact blk_on (blk _ _ _ _ (by simp)) hb2 | exact blk_on (blk_on (blkD _ _ _ _ rfl) hb1) hb2 | exact blk_on (keep _ (blk_on (blkD _ _ _ _ rfl) hb1)) hb2 | exact blk_on (blk_on (keepD _ (heap_alloc_new _ _)) hb1) hb2 | exact blk_on (blk_on (blkD _ _ _ _ (by simp)) hb1) hb2)
        have HF := Lib.hid (leaf_ba o1b o2 hB2 hp (by omega))
        clear o1 o2 o1b hB2 hb1 hb2 hz1 hz2 hp
        go_wp2_with fail
        go_meet
        exact HF.out
      · have hp : w2.heap[W0.heap.size]? = some (.cells Z4 26 (0, 0)) := (by first | exact blk_on (heap_alloc_new _ _) hb2 | exact blk_on (keep _ (heap_alloc_new _ _)) hb2 | exact blk_on (blk _ _ _ _ (by simp)) hb2 | exact blk_on (blk_on (blkD _ _ _ _ rfl) hb1) hb2 | exact blk_on (keep _ (blk_on (blkD _ _ _ _ rfl) hb1)) hb2 | exact blk_on (blk_on (keepD _ (heap_alloc_new _ _)) hb1) hb2 | exact blk_on (blk_on (blkD _ _ _ _ (by simp)) hb1) hb2)
        have hq : w2.heap[w1.heap.size]? = some (.cells Z4 32 (0, 0)) := (by first | exact blk_on (heap_alloc_new _ _) hb2 | exact blk_on (keep _ (heap_alloc_new _ _)) hb2 | exact blk_on (blk _ _ _ _ (by simp)) hb2 | exact blk_on (blk_on (blkD _ _ _ _ rfl) hb1) hb2 | exact blk_on (keep _ (blk_on (blkD _ _ _ _ rfl) hb1)) hb2 | exact blk_on (blk_on (keepD _ (heap_alloc_new _ _)) hb1) hb2 | exact blk_on (blk_on (blkD _ _ _ _ (by simp)) hb1) hb2)
        have HF := Lib.hid (leaf_bb o1b o2 hB2 hp (by omega) hq (by omega))
        clear o1 o2 o1b hB2 hb1 hb2 hz1 hz2 hp hq
        go_wp2_with fail
        go_meet
        exact HF.out
      · have hp : w2.heap[W0.heap.size]? = some (.cells Z4 26 (0, 0)) := (by first | exact blk_on (heap_alloc_new _ _) hb2 | exact blk_on (keep _ (heap_alloc_new _ _)) hb2 | exact blk_on (blk _ _ _ _ (by simp)) hb2 | exact blk_on (blk_on (blkD _ _ _ _ rfl) hb1) hb2 | exact blk_on (keep _ (blk_on (blkD _ _ _ _ rfl) hb1)) hb2 | exact blk_on (blk_on (keepD _ (heap_alloc_new _ _)) hb1) hb2 | exact blk_on (blk_on (blkD _ _ _ _ (by simp)) hb1) hb2)
        have hq : w2.heap[W0.heap.size + 1]? = some (.cells Z4 32 (0, 0)) := (by first | exact blk_on (heap_alloc_new _ _) hb2 | exact blk_on (keep _ (heap_alloc_new _ _)) hb2 | exact blk_on (blk _ _ _ _ (by simp)) hb2 | exact blk_on (blk_on (blkD _ _ _ _ rfl) hb1) hb2 | exact blk_on (keep _ (blk_on (blkD _ _ _ _ rfl) hb1)) hb2 | exact blk_on (blk_on (keepD _ (heap_alloc_new _ _)) hb1) hb2 | exact blk_on (blk_on (blkD _ _ _ _ (by simp)) hb1) hb2)
        have HF := Lib.hid (leaf_bb o1b o2 hB2 hp (by omega) hq (by omega))
        clear o1 o2 o1b hB2 hb1 hb2 hz1 hz2 hp hq
        go_wp2_with fail
        go_meet
        exact HF.out
      · have hq : w2.heap[W0.heap.size]? = some (.cells Z4 32 (0, 0)) := (by first | exact blk_on (heap_alloc_new _ _) hb2 | exact blk_on (keep _ (heap_alloc_new _ _)) hb2 | exact blk_on (blk _ _ _ _ (by simp)) hb2 | exact blk_on (blk_on (blkD _ _ _ _ rfl) hb1) hb2 | exact blk_on (keep _ (blk_on (blkD _ _ _ _ rfl) hb1)) hb2 | exact blk_on (blk_on (keepD _ (heap_alloc_new _ _)) hb1) hb2 | exact blk_on (blk_on (blkD _ _ _ _ (by simp)) hb1) hb2)
        have HF := Lib.hid (leaf_ab o1b o2 hB2 hq (by omega))
        clear o1 o2 o1b hB2 hb1 hb2 hz1 hz2 hq
        go_wp2_with fail
        go_meet
        exact HF.out
      · have hp : w2.heap[w1.heap.size]? = some (.cells Z4 26 (0, 0)) := (by first | exact blk_on (heap_alloc_new _ _) hb2 | exact blk_on (keep _ (heap_alloc_new _ _)) hb2 | exact blk_on (blk _ _ _ _ (by simp)) hb2 | exact blk_on (blk_on (blkD _ _ _ _ rfl) hb1) hb2 | exact blk_on (keep _ (blk_on (blkD _ _ _ _ rfl) hb1)) hb2 | exact blk_on (blk_on (keepD _ (heap_alloc_new _ _)) hb1) hb2 | exact blk_on (blk_on (blkD _ _ _ _ (by simp)) hb1) hb2)
        have hq : w2.heap[W0.heap.size]? = some (.cells Z4 32 (0, 0)) := (by first | exact blk_on (heap_alloc_new _ _) hb2 | exact blk_on (keep _ (heap_alloc_new _ _)) hb2 | exact blk_on (blk _ _ _ _ (by simp)) hb2 | exact blk_on (blk_on (blkD _ _ _ _ rfl) hb1) hb2 | exact blk_on (keep _ (blk_on (blkD _ _ _ _ rfl) hb1)) hb2 | exact blk_on (blk_on (keepD _ (heap_alloc_new _ _)) hb1) hb2 | exact blk_on (blk_on (blkD _ _ _ _ (by simp)) hb1) hb2)
        have HF := Lib.hid (leaf_bb o1b o2 hB2 hp (by omega) hq (by omega))
        clear o1 o2 o1b hB2 hb1 hb2 hz1 hz2 hp hq
        go_wp2_with fail
        go_meet
        exact HF.out
      · have hp : w2.heap[W0.heap.size + 1]? = some (.cells Z4 26 (0, 0)) := (by first | exact blk_on (heap_alloc_new _ _) hb2 | exact blk_on (keep _ (heap_alloc_new _ _)) hb2 | exact blk_on (blk _ _ _ _ (by simp)) hb2 | exact blk_on (blk_on (blkD _ _ _ _ rfl) hb1) hb2 | exact blk_on (keep _ (blk_on (blkD _ _ _ _ rfl) hb1)) hb2 | exact blk_on (blk_on (keepD _ (heap_alloc_new _ _)) hb1) hb2 | exact blk_on (blk_on (blkD _ _ _ _ (by simp)) hb1) hb2)
        have hq : w2.heap[W0.heap.size]? = some (.cells Z4 32 (0, 0)) := (by first | exact blk_on (heap_alloc_new _ _) hb2 | exact blk_on (keep _ (heap_alloc_new _ _)) hb2 | exact blk_on (blk _ _ _ _ (by simp)) hb2 | exact blk_on (blk_on (blkD _ _ _ _ rfl) hb1) hb2 | exact blk_on (keep _ (blk_on (blkD _ _ _ _ rfl) hb1)) hb2 | exact blk_on (blk_on (keepD _ (heap_alloc_new _ _)) hb1) hb2 | exact blk_on (blk_on (blkD _ _ _ _ (by simp)) hb1) hb2)
        have HF := Lib.hid (leaf_bb o1b o2 hB2 hp (by omega) hq (by omega))
        clear o1 o2 o1b hB2 hb1 hb2 hz1 hz2 hp hq
        go_wp2_with fail
        go_meet
        exact HF.out
    case rest =>
      obtain ⟨p, q, r1, t1, u1, n1, r2, t2, u2, n2, rfl, rfl, hp, hq, o1, o2, hB⟩ := hcut
      obtain ⟨a11, q11, a12, q12, a13, q13, a14, q14, rfl, rfl, rfl, rfl⟩ := o1.slices
      obtain ⟨a21, q21, a22, q22, a23, q23, a24, q24, rfl, rfl, rfl, rfl⟩ := o2.slices
      have hL : LawAt w wc p q (.slice ar c.rooms.length cr) (.slice at_ c.traps.length ct) (.slice au c.runs.length cu) (.slice an c.nights.length cn) _ _ _ _ _ _ _ _ c := ⟨hp, hq, blk_on (blk_on HX.out H0.out) hB, ((HC.out.on H0.out).on hB), o1.col HSH.out, o2.col HSH.out, HB.out.trans ((H0.out.trans (hB.mono H0.out.size)).mono HB.out.size)⟩
      have L0 := Lib.hid hL
      have L0B := Lib.hid hB
      have HYX := Lib.hid HY.out
      have H0X := Lib.hid H0.out
      clear hp hq o1 o2 hB hL HOWN HTHE HSS HSH H0 HC HX HB HLO HLT hsz0 hsz1
      obtain ⟨wd, rfl⟩ : ∃ wd : World, wd = wc := ⟨_, rfl⟩
      have HY0 := Lib.hid (blk_on (blk_on HYX.out H0X.out) L0B.out)
      have HTW := Lib.hid ((HTT.out.on H0X.out).on L0B.out)
      have HLW := Lib.hid ((HLL.out.on H0X.out).on L0B.out)
      have hT100 : T.length ≤ 100 := by omega
      have hL100 : L.length ≤ 100 := by omega
      have hTr : ∀ r ∈ T, r.length ≤ 100 := fun r hr => by have := wide_row HWW.out r hr; omega
      have HTR := Lib.hid hTr
      have hb00 : Hid (Below wd.heap.size wd wd.drew) := (Below.refl _ _).drew
      have HPQ : Hid (∀ W, Hid (Below wd.heap.size wd W) → W.cell? ⟨w.heap.size + 1, 0, none⟩ = some (.slice aT T.length qT) ∧ W.cell? ⟨w.heap.size + 1, 1, none⟩ = some (.slice aL L.length qL) ∧ Hid (Below wd.heap.size wd W)) := fun W h => ⟨(truth_at (blk_on HY0.out h.out)).1, (truth_at (blk_on HY0.out h.out)).2, h⟩
      have hP : wd.drew.cell? ⟨w.heap.size + 1, 0, none⟩ = some (.slice aT T.length qT) ∧ wd.drew.cell? ⟨w.heap.size + 1, 1, none⟩ = some (.slice aL L.length qL) ∧ Hid (Below wd.heap.size wd wd.drew) := HPQ.out _ hb00
      have HCR : Hid (∀ W, Hid (Below wd.heap.size wd W) → Calls Try.prog 65 #[.slice aT T.length qT] W fun e w' => ∃ a q, e = .returned (.slice a T.length q) ∧ Hid (OwnRows w' wd.heap.size (.slice a T.length q) T) ∧ Hid (Below wd.heap.size wd w') ∧ Below W.heap.size W w') := fun W h => (copyRows_any T _ W (HTW.out.on h.out) hT100 HTR.out).mono fun _ _ ⟨v, h1, h2, h3⟩ => by
        obtain ⟨a, q, rfl⟩ := h2.slice
        exact ⟨a, q, h1, h2.base h.out.size, h.out.trans (h3.mono h.out.size), h3⟩
      have HCI : Hid (∀ W, Hid (Below wd.heap.size wd W) → Calls Try.prog 44 #[.slice aL L.length qL] W fun e w' => ∃ a q, e = .returned (.slice a L.length q) ∧ Hid (w'.ownsRow wd.heap.size 3 1 (.slice a L.length q) L.length (intsV L)) ∧ Hid (Below wd.heap.size wd w') ∧ Below W.heap.size W w') := fun W h => (copyI_any L _ W (HLW.out.on h.out) hL100).mono fun _ _ ⟨v, h1, h2, h3⟩ => by
        obtain ⟨a, q, rfl⟩ := owns_slice h2
        exact ⟨a, q, h1, owns_base h2 h.out.size, h.out.trans (h3.mono h.out.size), h3⟩
      have HAL : Hid (∀ W o, Hid (Below wd.heap.size wd W) → Hid (Below wd.heap.size wd (W.alloc o))) := fun W o h => h.out.alloc h.out.size _
      have HST : Hid (∀ W p x y, Hid (Below wd.heap.size wd W) → wd.heap.size ≤ p → Hid (Below wd.heap.size wd ((W.setCell ⟨p, 0, none⟩ x).setCell ⟨p, 1, none⟩ y))) := fun W p x y h hp => (h.out.setCell (p := ⟨p, 0, none⟩) hp _).setCell (p := ⟨p, 1, none⟩) hp _
      have hsz0 : ∀ o, (wd.alloc o).drew.heap.size = wd.heap.size + 1 := fun o => World.size_alloc wd o
      go_upto_region 4 with (fail)
      go_cut [7] (fun s7 wx => MidTr wd T L s7 wx)
      case first =>
        go_region_held3 (fun w' => w'.cell? ⟨w.heap.size + 1, 0, none⟩ = some (.slice aT T.length qT) ∧ w'.cell? ⟨w.heap.size + 1, 1, none⟩ = some (.slice aL L.length qL) ∧ Hid (Below wd.heap.size wd w')) (first | with_reducible assumption | with_reducible exact HPQ.out _ hb1 | with_reducible exact HPQ.out _ hb2 | with_reducible exact HPQ.out _ (HAL.out _ _ hb1) | with_reducible exact HPQ.out _ (HAL.out _ _ hb2) | exact HPQ.out _ (HAL.out _ _ (Below.refl _ _).drew) | exact HPQ.out _ (HST.out _ _ _ _ hb1 (by first | exact Nat.le_refl _ | exact hb2.out.size | omega)) | exact HPQ.out _ (HST.out _ _ _ _ hb2 (by first | exact Nat.le_refl _ | exact hb1.out.size | omega)) | fail) (first | (go_at_call 65; (with_reducible refine (HCR.out _ (by exact (by assumption : _ ∧ _ ∧ Hid _).2.2)).mono ?_); rintro e w1 ⟨a1, q1, rfl, ho1, hb1, hc1⟩; obtain ⟨hcb1, hfb1⟩ := bcell hc1; have m1 := hc1.size; have mz1 := m1; (try simp only [World.size_alloc] at mz1); (try rw [hsz0] at m1); (try have k1 : wd.heap.size < w1.heap.size := by omega); (try have kb1 : w2.heap.size < w1.heap.size := by omega); have l1 : ∀ x, x < _ → x < w1.heap.size := fun x hx => Nat.lt_of_lt_of_le hx m1; have hd1 := Lib.hid hc1; clear hc1) | (go_at_call 44; (with_reducible refine (HCI.out _ (by exact (by assumption : _ ∧ _ ∧ Hid _).2.2)).mono ?_); rintro e w2 ⟨a2, q2, rfl, ho2, hb2, hc2⟩; obtain ⟨hcb2, hfb2⟩ := bcell hc2; have m2 := hc2.size; have mz2 := m2; (try simp only [World.size_alloc] at mz2); (try rw [hsz0] at m2); (try have k2 : wd.heap.size < w2.heap.size := by omega); (try have kb2 : w1.heap.size < w2.heap.size := by omega); have l2 : ∀ x, x < _ → x < w2.heap.size := fun x hx => Nat.lt_of_lt_of_le hx m2; have hd2 := Lib.hid hc2; clear hc2) | fail)
        all_goals
          first
            | (have b12 : Below w1.heap.size w1 w2 := by first | with_reducible exact hd2.out | with_reducible exact below_alloc1 hd2.out
               have HBB := Lib.hid b12
               have HNN := Lib.hid (And.intro hb1.out.size hb2.out.size)
               clear hcb1 hcb2 hfb1 hfb2 l1 l2 b12 hP HPQ HCR HCI HAL HST hb00
               go_wp2_with fail
               go_meet
               first
                 | with_reducible exact leafT_a (ho1.out.below HBB.out) ho2.out hb2
                 | (with_reducible refine leafT_b (ho1.out.below HBB.out) ho2.out hb2 ?_ ?_
                    all_goals first | exact HNN.out.1 | exact HNN.out.2 | omega | exact (by first | exact blk_on (heap_alloc_new _ _) hd2.out | exact blk_on (blk_on (heap_alloc_new _ _) hd1.out) HBB.out | exact blk_on (blk_on (blkD _ _ _ _ rfl) hd1.out) HBB.out | exact blk_on (blk_on (keepD _ (heap_alloc_new _ _)) hd1.out) HBB.out)))
            | (have b12 : Below w2.heap.size w2 w1 := by first | with_reducible exact hd1.out | with_reducible exact below_alloc1 hd1.out
               have HBB := Lib.hid b12
               have HNN := Lib.hid (And.intro hb1.out.size hb2.out.size)
               clear hcb1 hcb2 hfb1 hfb2 l1 l2 b12 hP HPQ HCR HCI HAL HST hb00
               go_wp2_with fail
               go_meet
               first
                 | with_reducible exact leafT_a ho1.out (owns_below ho2.out HBB.out) hb1
                 | (with_reducible refine leafT_b ho1.out (owns_below ho2.out HBB.out) hb1 ?_ ?_
                    all_goals first | exact HNN.out.1 | exact HNN.out.2 | omega | exact (by first | exact blk_on (heap_alloc_new _ _) hd1.out | exact blk_on (blk_on (heap_alloc_new _ _) hd2.out) HBB.out | exact blk_on (blk_on (blkD _ _ _ _ rfl) hd2.out) HBB.out | exact blk_on (blk_on (keepD _ (heap_alloc_new _ _)) hd2.out) HBB.out)))
      case rest =>
        obtain ⟨b7, tv, lv, rfl, hb7, ho7, hl7, hBT⟩ := hcut
        obtain ⟨a7, q7, rfl⟩ := ho7.slice
        obtain ⟨a8, q8, rfl⟩ := owns_slice hl7
        have hT64 := HT64.out
        have hM : TruthAt w wc b7 (.slice a7 T.length q7) (.slice a8 L.length q8) (.slice aT T.length qT) (.slice aL L.length qL) T L := ⟨hb7, blk_on HY0.out hBT, ho7.rows hT100 (fun r hr => ⟨HTR.out r hr, hT64 r hr⟩), nums_of_owns hl7 HLW.out.2 (by omega), HTW.out.on hBT, HLW.out.on hBT⟩
        have M1 := Lib.hid hM
        have L1 := Lib.hid (L0.out.on hBT)
        obtain ⟨lo, hlo⟩ : ∃ lo, (ratsV c).1 = lo := ⟨_, rfl⟩
        obtain ⟨hi, hhi⟩ : ∃ hi, (ratsV c).2 = hi := ⟨_, rfl⟩
        have hra := fun W A => (rats_both c (.slice a11 c.rooms.length q11) (.slice a12 c.traps.length q12) (.slice a13 c.runs.length q13) (.slice a14 c.nights.length q14) W A).1
        have hrb := fun W A => (rats_both c (.slice a21 c.rooms.length q21) (.slice a22 c.traps.length q22) (.slice a23 c.runs.length q23) (.slice a24 c.nights.length q24) W A).2
        rw [hlo, hhi] at hra hrb
        have HRA := Lib.hid hra
        have HRB := Lib.hid hrb
        have HLH := Lib.hid (And.intro hlo hhi)
        clear hb7 ho7 hl7 hBT hT64 hM hlo hhi hra hrb hP HPQ HCR HCI HAL HST hb00 HY0 HTW HLW HTR hTr hT100 hL100 L0 L0B HYX H0X HTT HLL HWW HY HT64
        obtain ⟨x0, x1, x2, x3⟩ := four_cells L1.out.hp
        have HCON := Lib.hid (HRA.out wc L1.out.own)
        go_wp2_with fail
        refine HCON.out.mono ?_
        rintro e w1 ⟨rfl, hb1⟩
        have hb1a : Below wc.heap.size wc (w1.alloc (.cells #[.int .i64 lo, .int .i64 hi] 49)) := hb1.alloc hb1.size _
        have L2 := Lib.hid (L1.out.on hb1a)
        have M2 := Lib.hid (M1.out.on hb1a)
        have hs8 : (w1.alloc (.cells #[.int .i64 lo, .int .i64 hi] 49)).heap[w1.heap.size]? = some (.cells #[.int .i64 lo, .int .i64 hi] 49 (0, 0)) := heap_alloc_new _ _
        have HS8 := Lib.hid hs8
        clear hb1 hb1a L1 M1 HCON x0 x1 x2 x3 hs8
        obtain ⟨x0, x1, x2, x3⟩ := four_cells L2.out.hq
        have HCON := Lib.hid (HRB.out (w1.alloc (.cells #[.int .i64 lo, .int .i64 hi] 49)) L2.out.ref)
        go_wp2_with fail
        refine HCON.out.mono ?_
        rintro e w2 ⟨rfl, hb2⟩
        have hb2a : Below (w1.alloc (.cells #[.int .i64 lo, .int .i64 hi] 49)).heap.size (w1.alloc (.cells #[.int .i64 lo, .int .i64 hi] 49)) (w2.alloc (.cells #[.int .i64 lo, .int .i64 hi] 49)) := hb2.alloc hb2.size _
        have L3 := Lib.hid (L2.out.on hb2a)
        have M3 := Lib.hid (M2.out.on hb2a)
        have hs8 := blk_on HS8.out hb2a
        have hs10 : (w2.alloc (.cells #[.int .i64 lo, .int .i64 hi] 49)).heap[w2.heap.size]? = some (.cells #[.int .i64 lo, .int .i64 hi] 49 (0, 0)) := heap_alloc_new _ _
        have HS10 := Lib.hid hs10
        have s0 := (cell_of_row _ _ 0 _ _ _ hs8).trans rfl
        have s1 := (cell_of_row _ _ 1 _ _ _ hs8).trans rfl
        have HNQ := neqs_Span lo hi
        clear hb2 hb2a L2 M2 HCON x0 x1 x2 x3 hs8 hs10 HS8
        obtain ⟨W3, hW3⟩ : ∃ W3, (w2.alloc (.cells #[.int .i64 lo, .int .i64 hi] 49)).alloc (.cells #[.bool false, .bool true] 4) = W3 := ⟨_, rfl⟩
        have hb3 : Below (w2.alloc (.cells #[.int .i64 lo, .int .i64 hi] 49)).heap.size (w2.alloc (.cells #[.int .i64 lo, .int .i64 hi] 49)) W3 := by rw [← hW3]; exact (Below.refl _ _).alloc (Nat.le_refl _) _
        have hbl : W3.heap[w2.heap.size + 1]? = some (.cells #[.bool false, .bool true] 4 (0, 0)) := by rw [← hW3]; exact blk _ _ _ _ (by simp)
        have L4 := Lib.hid (L3.out.on hb3)
        have M4 := Lib.hid (M3.out.on hb3)
        have HS4 := Lib.hid (blk_on HS10.out hb3)
        have HBL := Lib.hid hbl
        clear hb3 hbl L3 M3 HS10
        go_wp2_with fail
        go_loopw [73] (fun i wr => ∃ k : Nat, k ≤ 2 ∧ i = .int .i64 k ∧ Hid (Below W3.heap.size W3 wr)) (fun i _ => 2 - (intOf i).toNat)
        case atStart => exact ⟨0, by omega, rfl, Below.refl _ _⟩
        case round =>
          obtain ⟨k, hk, rfl, HR⟩ := hrel
          have L5 := Lib.hid (L4.out.on HR.out)
          have M5 := Lib.hid (M4.out.on HR.out)
          have HS5 := Lib.hid (blk_on HS4.out HR.out)
          have hk3 : k = 0 ∨ k = 1 ∨ k = 2 := by omega
          clear hk
          rcases hk3 with rfl | rfl | rfl
          · as_aux_lemma =>
            have bm := (cell_of_row _ _ 0 _ _ _ (blk_on HBL.out HR.out)).trans rfl
            by_cases q : fitErr c = 0
            · have hrv : ratsV c = ratsC c := by unfold ratsV; rw [if_pos q]
              have hcv : countT (findT c 0) (findL c 0) c.rooms.length (findT c 0).length = lo := by
                rw [findT_len, find_count q (by decide), find_least q, ← hrv, HLH.out.1]
              have HFP := Lib.hid (find_fits (c := c) q (x := 0) (by decide))
              have hcon := Find_okE c _ _ _ _ false wr L5.out.own q
              rw [show moreX false = 0 from rfl] at hcon
              have hq1 : (fitErr c != 0) = false := by simp [q]
              have hfe := find_err (c := c) q 0
              have HQ := Lib.hid q
              have HFE := Lib.hid hfe
              have HCV := Lib.hid hcv
              have HCON := Lib.hid hcon
              clear q hrv hcv hcon hfe
              obtain ⟨x0, x1, x2, x3⟩ := four_cells L5.out.hp
              go_wp2_with fail
              refine HCON.out.mono ?_
              rintro e w5 ⟨tf, lf, rfl, hTf, hLf, hb5⟩
              obtain ⟨af, qf, rfl, _, _, _⟩ := hTf.open
              obtain ⟨al, ql, rfl, _, _, _⟩ := hLf.open
              have hb5a : Below wr.heap.size wr (w5.alloc (.cells #[.slice af (findT c 0).length qf, .slice al (findL c 0).length ql] 55)) := hb5.alloc hb5.size _
              have hb5b : Below w5.heap.size w5 (w5.alloc (.cells #[.slice af (findT c 0).length qf, .slice al (findL c 0).length ql] 55)) := (Below.refl _ _).alloc (Nat.le_refl _) _
              have L6 := Lib.hid (L5.out.on hb5a)
              have HS6 := Lib.hid (blk_on HS5.out hb5a)
              have HTF := Lib.hid (And.intro (hTf.on hb5b) (hLf.on hb5b))
              have HB5 := Lib.hid (HR.out.trans (hb5a.mono HR.out.size))
              have hlen : (findT c 0).length ≤ 100 := by rw [findT_len]; have := needsC_len (okCol_of (fit_parts HQ.out).1); omega
              have hft := rFits_any c _ _ _ _ _ _ (findT c 0) (findL c 0) (w5.alloc (.cells #[.slice af (findT c 0).length qf, .slice al (findL c 0).length ql] 55)) L6.out.ref HTF.out.1 HTF.out.2 hlen
              rw [HFE.out] at hft
              have HFT := Lib.hid hft
              have HLN := Lib.hid hlen
              have HT5 : Hid ((w5.alloc (.cells #[.slice af (findT c 0).length qf, .slice al (findL c 0).length ql] 55)).heap[w5.heap.size]? = some (.cells #[.slice af (findT c 0).length qf, .slice al (findL c 0).length ql] 55 (0, 0))) := heap_alloc_new _ _
              clear hTf hLf hb5 hb5a hb5b hlen hft L5 HS5 M5 HCON x0 x1 x2 x3 HFE bm
              obtain ⟨x0, x1, x2, x3⟩ := four_cells L6.out.hq
              go_wp2_with fail
              refine HFT.out.mono ?_
              rintro e w6 ⟨b, rfl, hby, _, hb6⟩
              obtain rfl : b = true := (hby rfl).2 HFP.out
              have HT6 := Lib.hid (And.intro (HTF.out.1.on hb6) (HTF.out.2.on hb6))
              have HB6 := Lib.hid (HB5.out.trans (hb6.mono HB5.out.size))
              have HX6 := Lib.hid (And.intro (blk_on HT5.out hb6) (blk_on HS6.out hb6))
              clear hby hb6 L6 HS6 HTF HFT HT5 x0 x1 x2 x3
              have HPQ : Hid (∀ W, Hid (Below w6.heap.size w6 W) → W.cell? ⟨w5.heap.size, 0, none⟩ = some (.slice af (findT c 0).length qf) ∧ W.cell? ⟨w5.heap.size, 1, none⟩ = some (.slice al (findL c 0).length ql) ∧ W.cell? ⟨w2.heap.size, 0, none⟩ = some (.int .i64 lo) ∧ Hid (Below w6.heap.size w6 W)) := fun W h => ⟨(truth_at (blk_on HX6.out.1 h.out)).1, (truth_at (blk_on HX6.out.1 h.out)).2, (truth_at (blk_on HX6.out.2 h.out)).1, h⟩
              have hP : w6.drew.cell? ⟨w5.heap.size, 0, none⟩ = some (.slice af (findT c 0).length qf) ∧ w6.drew.cell? ⟨w5.heap.size, 1, none⟩ = some (.slice al (findL c 0).length ql) ∧ w6.drew.cell? ⟨w2.heap.size, 0, none⟩ = some (.int .i64 lo) ∧ Hid (Below w6.heap.size w6 w6.drew) := HPQ.out _ (Below.refl _ _).drew
              have HCT : Hid (∀ W, Hid (Below w6.heap.size w6 W) → Calls Try.prog 69 #[.agg #[.slice af (findT c 0).length qf, .slice al (findL c 0).length ql]] W fun e w' => e = .returned (.int .i64 lo) ∧ Hid (Below w6.heap.size w6 w')) := fun W h => by
                have ok := okCol_of (fit_parts HQ.out).1
                have hc1 : ∀ j, j < c.rooms.length → 0 ≤ nth (findL c 0) j ∧ nth (findL c 0) j ≤ 1000 := fun j hj => by
                  have h1 := find_bound HQ.out (x := 0) (by decide) hj
                  exact h1.2
                have hc2 : ∀ k j, k < (findT c 0).length → j < c.rooms.length → 0 ≤ nth (nthR (findT c 0) k) j ∧ nth (nthR (findT c 0) k) j ≤ 1000 := fun k j hk hj => by
                  rw [findT_len] at hk
                  exact (find_bound HQ.out (x := 0) (by decide) hj).1 k hk
                have h3 := count_any (findT c 0) (findL c 0) c.rooms.length _ _ W (HT6.out.1.on h.out) (HT6.out.2.on h.out) HLN.out (findL_len c 0) (by have := ok.houses.2; omega) (fun k hk => by rw [findT_len] at hk; rw [findT_row hk]; simp) hc1 hc2
                rw [HCV.out] at h3
                exact h3.mono fun _ _ ⟨h4, h5⟩ => ⟨h4, h.out.trans (h5.mono h.out.size)⟩
              go_upto_region 17 with (fail)
              refine wp_region_noPanic ?_
              refine wp_region_held_drew (S := (fun w' => w'.cell? ⟨w5.heap.size, 0, none⟩ = some (.slice af (findT c 0).length qf) ∧ w'.cell? ⟨w5.heap.size, 1, none⟩ = some (.slice al (findL c 0).length ql) ∧ w'.cell? ⟨w2.heap.size, 0, none⟩ = some (.int .i64 lo) ∧ Hid (Below w6.heap.size w6 w'))) (by kernel_rfl) hP (fun hHeld => ?_)
              refine takeH (i := 0) (d := 108) (v := ?_) rfl rfl (by kernel_rfl) (by kernel_rfl) (by kernel_rfl) (fun _ _ _ _ _ h => h) (by rfl) ?_ (by assumption) ?_
              rotate_left
              · intro w hSw
                (try dsimp only at hSw)
                go_simp
                try with_reducible rfl
              (try simp only [Act.put, List.setIfInBounds_toArray, List.set_cons_zero, List.set_cons_succ])
              refine takeH (i := 1) (d := 109) (v := ?_) rfl rfl (by kernel_rfl) (by kernel_rfl) (by kernel_rfl) (fun _ _ _ _ _ h => h) (by rfl) ?_ (by assumption) ?_
              rotate_left
              · intro w hSw
                (try dsimp only at hSw)
                go_simp
                try with_reducible rfl
              (try simp only [Act.put, List.setIfInBounds_toArray, List.set_cons_zero, List.set_cons_succ])
              refine takeH (i := 2) (d := 110) (v := ?_) rfl rfl (by kernel_rfl) (by kernel_rfl) (by kernel_rfl) (fun _ _ _ _ _ h => h) (by rfl) ?_ (by assumption) ?_
              rotate_left
              · intro w hSw
                (try dsimp only at hSw)
                go_simp
                try with_reducible rfl
              (try simp only [Act.put, List.setIfInBounds_toArray, List.set_cons_zero, List.set_cons_succ])
              refine takeH (i := 3) (d := 111) (v := ?_) rfl rfl (by kernel_rfl) (by kernel_rfl) (by kernel_rfl) (fun _ _ _ _ _ h => h) (by rfl) ?_ (by assumption) ?_
              rotate_left
              · intro w hSw
                (try dsimp only at hSw)
                go_simp
                try with_reducible rfl
              (try simp only [Act.put, List.setIfInBounds_toArray, List.set_cons_zero, List.set_cons_succ])
              refine takeH (i := 4) (d := 112) (v := ?_) rfl rfl (by kernel_rfl) (by kernel_rfl) (by kernel_rfl) (fun _ _ _ _ _ h => h) (by rfl) ?_ (by assumption) ?_
              rotate_left
              · intro w hSw
                (try dsimp only at hSw)
                go_simp
                try with_reducible rfl
              (try simp only [Act.put, List.setIfInBounds_toArray, List.set_cons_zero, List.set_cons_succ])
              refine takeH (i := 5) (d := 113) (v := ?_) rfl rfl (by kernel_rfl) (by kernel_rfl) (by kernel_rfl) (fun _ _ _ _ _ h => h) (by rfl) ?_ (by assumption) ?_
              rotate_left
              · intro w hSw
                (try dsimp only at hSw)
                go_simp
                try with_reducible rfl
              (try simp only [Act.put, List.setIfInBounds_toArray, List.set_cons_zero, List.set_cons_succ])
              refine takeH (i := 6) (d := 114) (v := ?_) rfl rfl (by kernel_rfl) (by kernel_rfl) (by kernel_rfl) (fun _ _ _ _ _ h => h) (by rfl) ?_ (by assumption) ?_
              rotate_left
              · intro w hSw
                (try dsimp only at hSw)
                go_simp
                try with_reducible rfl
              (try simp only [Act.put, List.setIfInBounds_toArray, List.set_cons_zero, List.set_cons_succ])
              refine takeH (i := 7) (d := 115) (v := ?_) rfl rfl (by kernel_rfl) (by kernel_rfl) (by kernel_rfl) (fun _ _ _ _ _ h => h) (by rfl) ?_ (by assumption) ?_
              rotate_left
              · intro w hSw
                (try dsimp only at hSw)
                go_simp
                try with_reducible rfl
              (try simp only [Act.put, List.setIfInBounds_toArray, List.set_cons_zero, List.set_cons_succ])
              refine takeH (i := 8) (d := 116) (v := ?_) rfl rfl (by kernel_rfl) (by kernel_rfl) (by kernel_rfl) (fun _ _ _ _ _ h => h) (by rfl) ?_ (by assumption) ?_
              rotate_left
              · intro w hSw
                (try dsimp only at hSw)
                go_simp
                try with_reducible rfl
              (try simp only [Act.put, List.setIfInBounds_toArray, List.set_cons_zero, List.set_cons_succ])
              refine skipH (i := 9) (d := 117) rfl rfl (by kernel_rfl) (by kernel_rfl) (by kernel_rfl) (fun _ _ _ _ _ h => h) (by rfl) (by assumption) ?_
              (try simp only [Act.put, List.setIfInBounds_toArray, List.set_cons_zero, List.set_cons_succ])
              refine skipH (i := 10) (d := 118) rfl rfl (by kernel_rfl) (by kernel_rfl) (by kernel_rfl) (fun _ _ _ _ _ h => h) (by rfl) (by assumption) ?_
              (try simp only [Act.put, List.setIfInBounds_toArray, List.set_cons_zero, List.set_cons_succ])
              refine skipH (i := 11) (d := 119) rfl rfl (by kernel_rfl) (by kernel_rfl) (by kernel_rfl) (fun _ _ _ _ _ h => h) (by rfl) (by assumption) ?_
              (try simp only [Act.put, List.setIfInBounds_toArray, List.set_cons_zero, List.set_cons_succ])
              refine skipH (i := 12) (d := 120) rfl rfl (by kernel_rfl) (by kernel_rfl) (by kernel_rfl) (fun _ _ _ _ _ h => h) (by rfl) (by assumption) ?_
              (try simp only [Act.put, List.setIfInBounds_toArray, List.set_cons_zero, List.set_cons_succ])
              refine skipH (i := 13) (d := 121) rfl rfl (by kernel_rfl) (by kernel_rfl) (by kernel_rfl) (fun _ _ _ _ _ h => h) (by rfl) (by assumption) ?_
              (try simp only [Act.put, List.setIfInBounds_toArray, List.set_cons_zero, List.set_cons_succ])
              refine takeH (i := 14) (d := 122) (v := ?_) rfl rfl (by kernel_rfl) (by kernel_rfl) (by kernel_rfl) (fun _ _ _ _ _ h => h) (by rfl) ?_ (by assumption) ?_
              rotate_left
              · intro w hSw
                (try dsimp only at hSw)
                go_simp
                try with_reducible rfl
              (try simp only [Act.put, List.setIfInBounds_toArray, List.set_cons_zero, List.set_cons_succ])
              refine takeH (i := 15) (d := 123) (v := ?_) rfl rfl (by kernel_rfl) (by kernel_rfl) (by kernel_rfl) (fun _ _ _ _ _ h => h) (by rfl) ?_ (by assumption) ?_
              rotate_left
              · intro w hSw
                (try dsimp only at hSw)
                go_simp
                try with_reducible rfl
              (try simp only [Act.put, List.setIfInBounds_toArray, List.set_cons_zero, List.set_cons_succ])
              refine takeH (i := 16) (d := 124) (v := ?_) rfl rfl (by kernel_rfl) (by kernel_rfl) (by kernel_rfl) (fun _ _ _ _ _ h => h) (by rfl) ?_ (by assumption) ?_
              rotate_left
              · intro w hSw
                (try dsimp only at hSw)
                go_simp
                try with_reducible rfl
              (try simp only [Act.put, List.setIfInBounds_toArray, List.set_cons_zero, List.set_cons_succ])
              refine takeH (i := 17) (d := 125) (v := ?_) rfl rfl (by kernel_rfl) (by kernel_rfl) (by kernel_rfl) (fun _ _ _ _ _ h => h) (by rfl) ?_ (by assumption) ?_
              rotate_left
              · intro w hSw
                (try dsimp only at hSw)
                go_simp
                try with_reducible rfl
              (try simp only [Act.put, List.setIfInBounds_toArray, List.set_cons_zero, List.set_cons_succ])
              refine takeH (i := 18) (d := 126) (v := ?_) rfl rfl (by kernel_rfl) (by kernel_rfl) (by kernel_rfl) (fun _ _ _ _ _ h => h) (by rfl) ?_ (by assumption) ?_
              rotate_left
              · intro w hSw
                (try dsimp only at hSw)
                go_simp
                try with_reducible rfl
              (try simp only [Act.put, List.setIfInBounds_toArray, List.set_cons_zero, List.set_cons_succ])
              refine takeH (i := 19) (d := 127) (v := ?_) rfl rfl (by kernel_rfl) (by kernel_rfl) (by kernel_rfl) (fun _ _ _ _ _ h => h) (by rfl) ?_ (by assumption) ?_
              rotate_left
              · intro w hSw
                (try dsimp only at hSw)
                go_simp
                try with_reducible rfl
              (try simp only [Act.put, List.setIfInBounds_toArray, List.set_cons_zero, List.set_cons_succ])
              refine takeH (i := 20) (d := 128) (v := ?_) rfl rfl (by kernel_rfl) (by kernel_rfl) (by kernel_rfl) (fun _ _ _ _ _ h => h) (by rfl) ?_ (by assumption) ?_
              rotate_left
              · intro w hSw
                (try dsimp only at hSw)
                go_simp
                try with_reducible rfl
              (try simp only [Act.put, List.setIfInBounds_toArray, List.set_cons_zero, List.set_cons_succ])
              refine takeH (i := 22) (d := 130) (v := ?_) rfl rfl (by kernel_rfl) (by kernel_rfl) (by kernel_rfl) (fun _ _ _ _ _ h => h) (by rfl) ?_ (by assumption) ?_
              rotate_left
              · intro w hSw
                (try dsimp only at hSw)
                go_simp
                try with_reducible rfl
              (try simp only [Act.put, List.setIfInBounds_toArray, List.set_cons_zero, List.set_cons_succ])
              refine takeH (i := 23) (d := 131) (v := ?_) rfl rfl (by kernel_rfl) (by kernel_rfl) (by kernel_rfl) (fun _ _ _ _ _ h => h) (by rfl) ?_ (by assumption) ?_
              rotate_left
              · intro w hSw
                (try dsimp only at hSw)
                go_simp
                try with_reducible rfl
              (try simp only [Act.put, List.setIfInBounds_toArray, List.set_cons_zero, List.set_cons_succ])
              refine wpAnyH_ready (rs := [21]) (by kernel_rfl) (by simp) ?_
              refine AllReadyH.cons rfl (fun K hK => ?_) AllReadyH.nil
              go_simp
              go_at_call 69
              refine (HCT.out _ (Below.refl w6.heap.size w6).drew).mono ?_
              rintro e w7 ⟨rfl, hb7⟩
              go_simp
              refine hK.out _ _ (HPQ.out _ hb7) (fun hHeld => ?_)
              clear hK K
              (try simp only [Act.put, List.setIfInBounds_toArray, List.set_cons_zero, List.set_cons_succ])
              refine takeH (i := 24) (d := 132) (v := ?_) rfl rfl (by kernel_rfl) (by kernel_rfl) (by kernel_rfl) (fun _ _ _ _ _ h => h) (by rfl) ?_ (by assumption) ?_
              rotate_left
              · intro w hSw
                (try dsimp only at hSw)
                go_simp
                try with_reducible rfl
              (try simp only [Act.put, List.setIfInBounds_toArray, List.set_cons_zero, List.set_cons_succ])
              refine takeH (i := 25) (d := 133) (v := ?_) rfl rfl (by kernel_rfl) (by kernel_rfl) (by kernel_rfl) (fun _ _ _ _ _ h => h) (by rfl) ?_ (by assumption) ?_
              rotate_left
              · intro w hSw
                (try dsimp only at hSw)
                go_simp
                try with_reducible rfl
              (try simp only [Act.put, List.setIfInBounds_toArray, List.set_cons_zero, List.set_cons_succ])
              refine takeH (i := 26) (d := 134) (v := ?_) rfl rfl (by kernel_rfl) (by kernel_rfl) (by kernel_rfl) (fun _ _ _ _ _ h => h) (by rfl) ?_ (by assumption) ?_
              rotate_left
              · intro w hSw
                (try dsimp only at hSw)
                go_simp
                try with_reducible rfl
              (try simp only [Act.put, List.setIfInBounds_toArray, List.set_cons_zero, List.set_cons_succ])
              refine wpAnyH_done (by kernel_rfl) ?_ _
              refine NoPanic.normal ?_
              have HB7 := Lib.hid (HB6.out.trans (hb7.out.mono HB6.out.size))
              clear hP HPQ HCT hb7 HX6 HT6
              go_wp2_with fail
              go_roundw
              case rel => exact ⟨1, by omega, by go_num, HB7.out⟩
              case measure => simp [intOf]
            · have hcon := Find_bad c _ _ _ _ false wr L5.out.own q
              have hq1 : (fitErr c != 0) = true := by simpa using q
              have HCON := Lib.hid hcon
              clear q hcon
              obtain ⟨x0, x1, x2, x3⟩ := four_cells L5.out.hp
              go_wp2_with fail
              refine HCON.out.mono ?_
              rintro e w5 ⟨rfl, hb5⟩
              have HB5 : Hid (Below W3.heap.size W3 (w5.alloc (.cells #[.slice none 0 0, .slice none 0 0] 55))) := HR.out.trans ((hb5.alloc hb5.size _).mono HR.out.size)
              clear hb5 L5 HS5 M5 HCON x0 x1 x2 x3 bm
              go_wp2_with fail
              go_roundw
              case rel => exact ⟨1, by omega, by go_num, HB5.out⟩
              case measure => simp [intOf]
          · as_aux_lemma =>
            have bm := (cell_of_row _ _ 1 _ _ _ (blk_on HBL.out HR.out)).trans rfl
            by_cases q : fitErr c = 0
            · have hrv : ratsV c = ratsC c := by unfold ratsV; rw [if_pos q]
              have hcv : countT (findT c 361) (findL c 361) c.rooms.length (findT c 361).length = hi := by
                rw [findT_len, find_count q (by decide), find_most q, ← hrv, HLH.out.2]
              have HFP := Lib.hid (find_fits (c := c) q (x := 361) (by decide))
              have hcon := Find_okE c _ _ _ _ true wr L5.out.own q
              rw [show moreX true = 361 from rfl] at hcon
              have hq1 : (fitErr c != 0) = false := by simp [q]
              have hfe := find_err (c := c) q 361
              have HQ := Lib.hid q
              have HFE := Lib.hid hfe
              have HCV := Lib.hid hcv
              have HCON := Lib.hid hcon
              clear q hrv hcv hcon hfe
              obtain ⟨x0, x1, x2, x3⟩ := four_cells L5.out.hp
              go_wp2_with fail
              refine HCON.out.mono ?_
              rintro e w5 ⟨tf, lf, rfl, hTf, hLf, hb5⟩
              obtain ⟨af, qf, rfl, _, _, _⟩ := hTf.open
              obtain ⟨al, ql, rfl, _, _, _⟩ := hLf.open
              have hb5a : Below wr.heap.size wr (w5.alloc (.cells #[.slice af (findT c 361).length qf, .slice al (findL c 361).length ql] 55)) := hb5.alloc hb5.size _
              have hb5b : Below w5.heap.size w5 (w5.alloc (.cells #[.slice af (findT c 361).length qf, .slice al (findL c 361).length ql] 55)) := (Below.refl _ _).alloc (Nat.le_refl _) _
              have L6 := Lib.hid (L5.out.on hb5a)
              have HS6 := Lib.hid (blk_on HS5.out hb5a)
              have HTF := Lib.hid (And.intro (hTf.on hb5b) (hLf.on hb5b))
              have HB5 := Lib.hid (HR.out.trans (hb5a.mono HR.out.size))
              have hlen : (findT c 361).length ≤ 100 := by rw [findT_len]; have := needsC_len (okCol_of (fit_parts HQ.out).1); omega
              have hft := rFits_any c _ _ _ _ _ _ (findT c 361) (findL c 361) (w5.alloc (.cells #[.slice af (findT c 361).length qf, .slice al (findL c 361).length ql] 55)) L6.out.ref HTF.out.1 HTF.out.2 hlen
              rw [HFE.out] at hft
              have HFT := Lib.hid hft
              have HLN := Lib.hid hlen
              have HT5 : Hid ((w5.alloc (.cells #[.slice af (findT c 361).length qf, .slice al (findL c 361).length ql] 55)).heap[w5.heap.size]? = some (.cells #[.slice af (findT c 361).length qf, .slice al (findL c 361).length ql] 55 (0, 0))) := heap_alloc_new _ _
              clear hTf hLf hb5 hb5a hb5b hlen hft L5 HS5 M5 HCON x0 x1 x2 x3 HFE bm
              obtain ⟨x0, x1, x2, x3⟩ := four_cells L6.out.hq
              go_wp2_with fail
              refine HFT.out.mono ?_
              rintro e w6 ⟨b, rfl, hby, _, hb6⟩
              obtain rfl : b = true := (hby rfl).2 HFP.out
              have HT6 := Lib.hid (And.intro (HTF.out.1.on hb6) (HTF.out.2.on hb6))
              have HB6 := Lib.hid (HB5.out.trans (hb6.mono HB5.out.size))
              have HX6 := Lib.hid (And.intro (blk_on HT5.out hb6) (blk_on HS6.out hb6))
              clear hby hb6 L6 HS6 HTF HFT HT5 x0 x1 x2 x3
              have HPQ : Hid (∀ W, Hid (Below w6.heap.size w6 W) → W.cell? ⟨w5.heap.size, 0, none⟩ = some (.slice af (findT c 361).length qf) ∧ W.cell? ⟨w5.heap.size, 1, none⟩ = some (.slice al (findL c 361).length ql) ∧ W.cell? ⟨w2.heap.size, 1, none⟩ = some (.int .i64 hi) ∧ Hid (Below w6.heap.size w6 W)) := fun W h => ⟨(truth_at (blk_on HX6.out.1 h.out)).1, (truth_at (blk_on HX6.out.1 h.out)).2, (truth_at (blk_on HX6.out.2 h.out)).2, h⟩
              have hP : w6.drew.cell? ⟨w5.heap.size, 0, none⟩ = some (.slice af (findT c 361).length qf) ∧ w6.drew.cell? ⟨w5.heap.size, 1, none⟩ = some (.slice al (findL c 361).length ql) ∧ w6.drew.cell? ⟨w2.heap.size, 1, none⟩ = some (.int .i64 hi) ∧ Hid (Below w6.heap.size w6 w6.drew) := HPQ.out _ (Below.refl _ _).drew
              have HCT : Hid (∀ W, Hid (Below w6.heap.size w6 W) → Calls Try.prog 69 #[.agg #[.slice af (findT c 361).length qf, .slice al (findL c 361).length ql]] W fun e w' => e = .returned (.int .i64 hi) ∧ Hid (Below w6.heap.size w6 w')) := fun W h => by
                have ok := okCol_of (fit_parts HQ.out).1
                have hc1 : ∀ j, j < c.rooms.length → 0 ≤ nth (findL c 361) j ∧ nth (findL c 361) j ≤ 1000 := fun j hj => by
                  have h1 := find_bound HQ.out (x := 361) (by decide) hj
                  exact h1.2
                have hc2 : ∀ k j, k < (findT c 361).length → j < c.rooms.length → 0 ≤ nth (nthR (findT c 361) k) j ∧ nth (nthR (findT c 361) k) j ≤ 1000 := fun k j hk hj => by
                  rw [findT_len] at hk
                  exact (find_bound HQ.out (x := 361) (by decide) hj).1 k hk
                have h3 := count_any (findT c 361) (findL c 361) c.rooms.length _ _ W (HT6.out.1.on h.out) (HT6.out.2.on h.out) HLN.out (findL_len c 361) (by have := ok.houses.2; omega) (fun k hk => by rw [findT_len] at hk; rw [findT_row hk]; simp) hc1 hc2
                rw [HCV.out] at h3
                exact h3.mono fun _ _ ⟨h4, h5⟩ => ⟨h4, h.out.trans (h5.mono h.out.size)⟩
              go_upto_region 17 with (fail)
              refine wp_region_noPanic ?_
              refine wp_region_held_drew (S := (fun w' => w'.cell? ⟨w5.heap.size, 0, none⟩ = some (.slice af (findT c 361).length qf) ∧ w'.cell? ⟨w5.heap.size, 1, none⟩ = some (.slice al (findL c 361).length ql) ∧ w'.cell? ⟨w2.heap.size, 1, none⟩ = some (.int .i64 hi) ∧ Hid (Below w6.heap.size w6 w'))) (by kernel_rfl) hP (fun hHeld => ?_)
              refine takeH (i := 0) (d := 108) (v := ?_) rfl rfl (by kernel_rfl) (by kernel_rfl) (by kernel_rfl) (fun _ _ _ _ _ h => h) (by rfl) ?_ (by assumption) ?_
              rotate_left
              · intro w hSw
                (try dsimp only at hSw)
                go_simp
                try with_reducible rfl
              (try simp only [Act.put, List.setIfInBounds_toArray, List.set_cons_zero, List.set_cons_succ])
              refine takeH (i := 1) (d := 109) (v := ?_) rfl rfl (by kernel_rfl) (by kernel_rfl) (by kernel_rfl) (fun _ _ _ _ _ h => h) (by rfl) ?_ (by assumption) ?_
              rotate_left
              · intro w hSw
                (try dsimp only at hSw)
                go_simp
                try with_reducible rfl
              (try simp only [Act.put, List.setIfInBounds_toArray, List.set_cons_zero, List.set_cons_succ])
              refine takeH (i := 2) (d := 110) (v := ?_) rfl rfl (by kernel_rfl) (by kernel_rfl) (by kernel_rfl) (fun _ _ _ _ _ h => h) (by rfl) ?_ (by assumption) ?_
              rotate_left
              · intro w hSw
                (try dsimp only at hSw)
                go_simp
                try with_reducible rfl
              (try simp only [Act.put, List.setIfInBounds_toArray, List.set_cons_zero, List.set_cons_succ])
              refine takeH (i := 3) (d := 111) (v := ?_) rfl rfl (by kernel_rfl) (by kernel_rfl) (by kernel_rfl) (fun _ _ _ _ _ h => h) (by rfl) ?_ (by assumption) ?_
              rotate_left
              · intro w hSw
                (try dsimp only at hSw)
                go_simp
                try with_reducible rfl
              (try simp only [Act.put, List.setIfInBounds_toArray, List.set_cons_zero, List.set_cons_succ])
              refine takeH (i := 4) (d := 112) (v := ?_) rfl rfl (by kernel_rfl) (by kernel_rfl) (by kernel_rfl) (fun _ _ _ _ _ h => h) (by rfl) ?_ (by assumption) ?_
              rotate_left
              · intro w hSw
                (try dsimp only at hSw)
                go_simp
                try with_reducible rfl
              (try simp only [Act.put, List.setIfInBounds_toArray, List.set_cons_zero, List.set_cons_succ])
              refine takeH (i := 5) (d := 113) (v := ?_) rfl rfl (by kernel_rfl) (by kernel_rfl) (by kernel_rfl) (fun _ _ _ _ _ h => h) (by rfl) ?_ (by assumption) ?_
              rotate_left
              · intro w hSw
                (try dsimp only at hSw)
                go_simp
                try with_reducible rfl
              (try simp only [Act.put, List.setIfInBounds_toArray, List.set_cons_zero, List.set_cons_succ])
              refine takeH (i := 6) (d := 114) (v := ?_) rfl rfl (by kernel_rfl) (by kernel_rfl) (by kernel_rfl) (fun _ _ _ _ _ h => h) (by rfl) ?_ (by assumption) ?_
              rotate_left
              · intro w hSw
                (try dsimp only at hSw)
                go_simp
                try with_reducible rfl
              (try simp only [Act.put, List.setIfInBounds_toArray, List.set_cons_zero, List.set_cons_succ])
              refine takeH (i := 7) (d := 115) (v := ?_) rfl rfl (by kernel_rfl) (by kernel_rfl) (by kernel_rfl) (fun _ _ _ _ _ h => h) (by rfl) ?_ (by assumption) ?_
              rotate_left
              · intro w hSw
                (try dsimp only at hSw)
                go_simp
                try with_reducible rfl
              (try simp only [Act.put, List.setIfInBounds_toArray, List.set_cons_zero, List.set_cons_succ])
              refine takeH (i := 8) (d := 116) (v := ?_) rfl rfl (by kernel_rfl) (by kernel_rfl) (by kernel_rfl) (fun _ _ _ _ _ h => h) (by rfl) ?_ (by assumption) ?_
              rotate_left
              · intro w hSw
                (try dsimp only at hSw)
                go_simp
                try with_reducible rfl
              (try simp only [Act.put, List.setIfInBounds_toArray, List.set_cons_zero, List.set_cons_succ])
              refine takeH (i := 9) (d := 117) (v := ?_) rfl rfl (by kernel_rfl) (by kernel_rfl) (by kernel_rfl) (fun _ _ _ _ _ h => h) (by rfl) ?_ (by assumption) ?_
              rotate_left
              · intro w hSw
                (try dsimp only at hSw)
                go_simp
                try with_reducible rfl
              (try simp only [Act.put, List.setIfInBounds_toArray, List.set_cons_zero, List.set_cons_succ])
              refine takeH (i := 11) (d := 119) (v := ?_) rfl rfl (by kernel_rfl) (by kernel_rfl) (by kernel_rfl) (fun _ _ _ _ _ h => h) (by rfl) ?_ (by assumption) ?_
              rotate_left
              · intro w hSw
                (try dsimp only at hSw)
                go_simp
                try with_reducible rfl
              (try simp only [Act.put, List.setIfInBounds_toArray, List.set_cons_zero, List.set_cons_succ])
              refine takeH (i := 12) (d := 120) (v := ?_) rfl rfl (by kernel_rfl) (by kernel_rfl) (by kernel_rfl) (fun _ _ _ _ _ h => h) (by rfl) ?_ (by assumption) ?_
              rotate_left
              · intro w hSw
                (try dsimp only at hSw)
                go_simp
                try with_reducible rfl
              (try simp only [Act.put, List.setIfInBounds_toArray, List.set_cons_zero, List.set_cons_succ])
              refine wpAnyH_ready (rs := [10]) (by kernel_rfl) (by simp) ?_
              refine AllReadyH.cons rfl (fun K hK => ?_) AllReadyH.nil
              go_simp
              go_at_call 69
              refine (HCT.out _ (Below.refl w6.heap.size w6).drew).mono ?_
              rintro e w7 ⟨rfl, hb7⟩
              go_simp
              refine hK.out _ _ (HPQ.out _ hb7) (fun hHeld => ?_)
              clear hK K
              (try simp only [Act.put, List.setIfInBounds_toArray, List.set_cons_zero, List.set_cons_succ])
              refine takeH (i := 13) (d := 121) (v := ?_) rfl rfl (by kernel_rfl) (by kernel_rfl) (by kernel_rfl) (fun _ _ _ _ _ h => h) (by rfl) ?_ (by assumption) ?_
              rotate_left
              · intro w hSw
                (try dsimp only at hSw)
                go_simp
                try with_reducible rfl
              (try simp only [Act.put, List.setIfInBounds_toArray, List.set_cons_zero, List.set_cons_succ])
              refine takeH (i := 14) (d := 122) (v := ?_) rfl rfl (by kernel_rfl) (by kernel_rfl) (by kernel_rfl) (fun _ _ _ _ _ h => h) (by rfl) ?_ (by assumption) ?_
              rotate_left
              · intro w hSw
                (try dsimp only at hSw)
                go_simp
                try with_reducible rfl
              (try simp only [Act.put, List.setIfInBounds_toArray, List.set_cons_zero, List.set_cons_succ])
              refine takeH (i := 15) (d := 123) (v := ?_) rfl rfl (by kernel_rfl) (by kernel_rfl) (by kernel_rfl) (fun _ _ _ _ _ h => h) (by rfl) ?_ (by assumption) ?_
              rotate_left
              · intro w hSw
                (try dsimp only at hSw)
                go_simp
                try with_reducible rfl
              (try simp only [Act.put, List.setIfInBounds_toArray, List.set_cons_zero, List.set_cons_succ])
              refine takeH (i := 16) (d := 124) (v := ?_) rfl rfl (by kernel_rfl) (by kernel_rfl) (by kernel_rfl) (fun _ _ _ _ _ h => h) (by rfl) ?_ (by assumption) ?_
              rotate_left
              · intro w hSw
                (try dsimp only at hSw)
                go_simp
                try with_reducible rfl
              (try simp only [Act.put, List.setIfInBounds_toArray, List.set_cons_zero, List.set_cons_succ])
              refine takeH (i := 17) (d := 125) (v := ?_) rfl rfl (by kernel_rfl) (by kernel_rfl) (by kernel_rfl) (fun _ _ _ _ _ h => h) (by rfl) ?_ (by assumption) ?_
              rotate_left
              · intro w hSw
                (try dsimp only at hSw)
                go_simp
                try with_reducible rfl
              (try simp only [Act.put, List.setIfInBounds_toArray, List.set_cons_zero, List.set_cons_succ])
              refine takeH (i := 18) (d := 126) (v := ?_) rfl rfl (by kernel_rfl) (by kernel_rfl) (by kernel_rfl) (fun _ _ _ _ _ h => h) (by rfl) ?_ (by assumption) ?_
              rotate_left
              · intro w hSw
                (try dsimp only at hSw)
                go_simp
                try with_reducible rfl
              (try simp only [Act.put, List.setIfInBounds_toArray, List.set_cons_zero, List.set_cons_succ])
              refine takeH (i := 19) (d := 127) (v := ?_) rfl rfl (by kernel_rfl) (by kernel_rfl) (by kernel_rfl) (fun _ _ _ _ _ h => h) (by rfl) ?_ (by assumption) ?_
              rotate_left
              · intro w hSw
                (try dsimp only at hSw)
                go_simp
                try with_reducible rfl
              (try simp only [Act.put, List.setIfInBounds_toArray, List.set_cons_zero, List.set_cons_succ])
              refine skipH (i := 20) (d := 128) rfl rfl (by kernel_rfl) (by kernel_rfl) (by kernel_rfl) (fun _ _ _ _ _ h => h) (by rfl) (by assumption) ?_
              (try simp only [Act.put, List.setIfInBounds_toArray, List.set_cons_zero, List.set_cons_succ])
              refine skipH (i := 21) (d := 129) rfl rfl (by kernel_rfl) (by kernel_rfl) (by kernel_rfl) (fun _ _ _ _ _ h => h) (by rfl) (by assumption) ?_
              (try simp only [Act.put, List.setIfInBounds_toArray, List.set_cons_zero, List.set_cons_succ])
              refine skipH (i := 22) (d := 130) rfl rfl (by kernel_rfl) (by kernel_rfl) (by kernel_rfl) (fun _ _ _ _ _ h => h) (by rfl) (by assumption) ?_
              (try simp only [Act.put, List.setIfInBounds_toArray, List.set_cons_zero, List.set_cons_succ])
              refine skipH (i := 23) (d := 131) rfl rfl (by kernel_rfl) (by kernel_rfl) (by kernel_rfl) (fun _ _ _ _ _ h => h) (by rfl) (by assumption) ?_
              (try simp only [Act.put, List.setIfInBounds_toArray, List.set_cons_zero, List.set_cons_succ])
              refine skipH (i := 24) (d := 132) rfl rfl (by kernel_rfl) (by kernel_rfl) (by kernel_rfl) (fun _ _ _ _ _ h => h) (by rfl) (by assumption) ?_
              (try simp only [Act.put, List.setIfInBounds_toArray, List.set_cons_zero, List.set_cons_succ])
              refine takeH (i := 25) (d := 133) (v := ?_) rfl rfl (by kernel_rfl) (by kernel_rfl) (by kernel_rfl) (fun _ _ _ _ _ h => h) (by rfl) ?_ (by assumption) ?_
              rotate_left
              · intro w hSw
                (try dsimp only at hSw)
                go_simp
                try with_reducible rfl
              (try simp only [Act.put, List.setIfInBounds_toArray, List.set_cons_zero, List.set_cons_succ])
              refine takeH (i := 26) (d := 134) (v := ?_) rfl rfl (by kernel_rfl) (by kernel_rfl) (by kernel_rfl) (fun _ _ _ _ _ h => h) (by rfl) ?_ (by assumption) ?_
              rotate_left
              · intro w hSw
                (try dsimp only at hSw)
                go_simp
                try with_reducible rfl
              (try simp only [Act.put, List.setIfInBounds_toArray, List.set_cons_zero, List.set_cons_succ])
              refine wpAnyH_done (by kernel_rfl) ?_ _
              refine NoPanic.normal ?_
              have HB7 := Lib.hid (HB6.out.trans (hb7.out.mono HB6.out.size))
              clear hP HPQ HCT hb7 HX6 HT6
              go_wp2_with fail
              go_roundw
              case rel => exact ⟨2, by omega, by go_num, HB7.out⟩
              case measure => simp [intOf]
            · have hcon := Find_bad c _ _ _ _ true wr L5.out.own q
              have hq1 : (fitErr c != 0) = true := by simpa using q
              have HCON := Lib.hid hcon
              clear q hcon
              obtain ⟨x0, x1, x2, x3⟩ := four_cells L5.out.hp
              go_wp2_with fail
              refine HCON.out.mono ?_
              rintro e w5 ⟨rfl, hb5⟩
              have HB5 : Hid (Below W3.heap.size W3 (w5.alloc (.cells #[.slice none 0 0, .slice none 0 0] 55))) := HR.out.trans ((hb5.alloc hb5.size _).mono HR.out.size)
              clear hb5 L5 HS5 M5 HCON x0 x1 x2 x3 bm
              go_wp2_with fail
              go_roundw
              case rel => exact ⟨2, by omega, by go_num, HB5.out⟩
              case measure => simp [intOf]
          · as_aux_lemma =>
            obtain ⟨x0, x1, x2, x3⟩ := four_cells L5.out.hp
            have HCON := Lib.hid ((starts_both c _ _ _ _ wr L5.out.own).1)
            go_wp2_with fail
            refine HCON.out.mono ?_
            rintro e w5 ⟨v5, rfl, hv5, hb5⟩
            have L6 := Lib.hid (L5.out.on hb5)
            have M6 := Lib.hid (M5.out.on hb5)
            have HV5 := Lib.hid hv5
            clear hv5 hb5 L5 M5 HS5 HCON x0 x1 x2 x3
            obtain ⟨x0, x1, x2, x3⟩ := four_cells L6.out.hq
            have HCON := Lib.hid ((starts_both c _ _ _ _ w5 L6.out.ref).2)
            go_wp2_with fail
            refine HCON.out.mono ?_
            rintro e w6 ⟨v6, rfl, hv6, hb6⟩
            have L7 := Lib.hid (L6.out.on hb6)
            have M7 := Lib.hid (M6.out.on hb6)
            have hal := alikeSpan_any _ _ _ _ w6 (HV5.out.on hb6) hv6
            simp only [decide_true] at hal
            have HAL := Lib.hid hal
            clear hb6 L6 M6 HCON x0 x1 x2 x3 hv6 hal HV5
            go_wp2_with fail
            refine HAL.out.mono ?_
            rintro e w7 ⟨rfl, hb7⟩
            have L7' := Lib.hid (L7.out.on hb7)
            have M7' := Lib.hid (M7.out.on hb7)
            clear HAL hb7 L7 M7
            obtain ⟨L7, hL7⟩ : ∃ L7, L7 = L7' := ⟨_, rfl⟩
            obtain ⟨M7, hM7⟩ : ∃ M7, M7 = M7' := ⟨_, rfl⟩
            clear hL7 hM7 L7' M7'
            obtain ⟨x0, x1, x2, x3⟩ := four_cells L7.out.hp
            obtain ⟨y0, y1⟩ := truth_at M7.out.own
            have HCON := Lib.hid (Fits_any c _ _ _ _ _ _ T L w7 L7.out.own M7.out.rows M7.out.left)
            go_wp2_with fail
            refine HCON.out.mono ?_
            rintro e w8 ⟨b1, rfl, p1, p2, hb8⟩
            have L8 := Lib.hid (L7.out.on hb8)
            have M8 := Lib.hid (M7.out.on hb8)
            have HP1 := Lib.hid (And.intro p1 p2)
            clear hb8 L7 M7 HCON x0 x1 x2 x3 y0 y1 p1 p2
            obtain ⟨x0, x1, x2, x3⟩ := four_cells L8.out.hq
            obtain ⟨y0, y1⟩ := truth_at M8.out.box
            have HCON := Lib.hid (rFits_any c _ _ _ _ _ _ T L w8 L8.out.ref M8.out.rows0 M8.out.left0 (by omega))
            go_wp2_with fail
            refine HCON.out.mono ?_
            rintro e w9 ⟨b2, rfl, p1, p2, hb9⟩
            obtain rfl : b1 = b2 := by
              by_cases h : fitsErr c T L = 0
              · have h1 := HP1.out.1 h
                have h2 := p1 h
                cases b1 <;> cases b2 <;> simp_all
              · rw [HP1.out.2 h, p2 h]
            have L9 := Lib.hid (L8.out.on hb9)
            have M9 := Lib.hid (M8.out.on hb9)
            clear hb9 L8 M8 HCON x0 x1 x2 x3 y0 y1 p1 p2 HP1
            obtain ⟨x0, x1, x2, x3⟩ := four_cells L9.out.hp
            obtain ⟨y0, y1, y2, y3⟩ := four_cells L9.out.box
            have HSA := Lib.hid (same_any c _ _ _ _ _ _ _ _ w9 L9.out.own L9.out.arg)
            go_wp2_with fail
            refine HSA.out.mono ?_
            rintro e w10 ⟨rfl, hb10⟩
            have L10 := Lib.hid (L9.out.below.trans (hb10.mono L9.out.below.size))
            have M10 := Lib.hid (M9.out.on hb10)
            have har := alikeRows_any _ _ _ _ w10 (M10.out.rows) (M10.out.rows0)
            simp only [decide_true] at har
            have HAR := Lib.hid har
            clear hb10 L9 M9 HSA x0 x1 x2 x3 y0 y1 y2 y3 har
            obtain ⟨x0, x1⟩ := truth_at M10.out.own
            obtain ⟨y0, y1⟩ := truth_at M10.out.box
            go_wp2_with fail
            refine HAR.out.mono ?_
            rintro e w11 ⟨rfl, rfl⟩
            have hal := alike_any _ _ _ _ w10 M10.out.left M10.out.left0
            simp only [decide_true] at hal
            have HAL := Lib.hid hal
            clear HAR hal M10
            go_wp2_with fail
            refine HAL.out.mono ?_
            rintro e w12 ⟨rfl, rfl⟩
            clear HAL x0 x1 y0 y1
            go_wp2_with fail
            refine (awake_any w10).mono ?_
            rintro e w13 ⟨rfl, hb13⟩
            have L13 := Lib.hid (L10.out.trans (hb13.mono L10.out.size))
            clear hb13 L10
            go_wp2_with fail
            go_ret
            exact ⟨rfl, L13.out⟩
end Go.Proofs.Ytnhifinfjfpoiaa

namespace Go.Proofs.Ytnhifinfjfpoiaa
open Go.RowKit Go.ChangeShapes Go.WideShapes Go.ChangeAt

theorem ownKnob_none : ownKnob Try.prog.godebug = none := by kernel_rfl
theorem laidOut_yes : laidOutB Try.prog = true := by kernel_rfl

set_option maxRecDepth 100000 in
theorem ratCounts_lifted (os : Os) (started : os.Started) (H : Type) (enc : TypeId × Value → H) :
    ReturnsInHanded {} Try.checked os 14 .any (Rows.ratCountsSpec.pre6 enc Try.prog Try.f14 Rows.ratCountsRow.domain false) (Rows.ratCountsSpec.post enc Try.prog Try.f14 false true false false) := by
  refine returnsInHanded_of_change_sized (C := Try.checked) ownKnob_none started (by kernel_rfl) Try.func14
    (ChangeSpec.witness6 (enc := enc) (C := Try.checked) false ⟨#[], #[.agg #[.slice none 0 0, .slice none 0 0, .slice none 0 0, .slice none 0 0], .agg #[.slice none 0 0, .slice none 0 0]], []⟩ 8 (by kernel_rfl) (by kernel_rfl) (by kernel_rfl) (by kernel_rfl)) ?_
  intro W base args ds gs before hval0 hW0 _ hsz0 _
  have hval : ∀ (j : Nat) t v, Try.f14.params[j]? = some t → args[j]? = some v → Value.okWide Try.prog W .any base t v := hval0
  have hsz : (DataW.weightsEach Try.prog (Try.f14.params.toList ++ Rows.ratCountsSpec.plain.varTypes Try.prog) (ds ++ gs)).all (· ≤ reachBytes) = true := hsz0
  have hW := hW0
  obtain ⟨p, q, hA0, hV, rfl, hfz, hnd⟩ := hW
  have hA : DataW.TrodAll enc Try.prog W 0 (fun _ => true) true Try.f14.params.toList args.toList ds p := hA0
  rw [Try.params14] at hA hval hsz
  obtain ⟨v0, v1, d0, d1, p0, p1, rfl, rfl, rfl, h0, h1⟩ := trodAll_two hA
  obtain ⟨rfl, rfl⟩ := trodVars_none hV
  have k0 := h0
  have k1 := h1
  obtain ⟨r, t, u, n, c, rfl, hc⟩ := open_col (hval 0 _ v0 rfl rfl) h0 (fun m hm => by
    have := List.all_eq_true.1 hsz m (DataW.weights_mem_each (j := 0) rfl rfl m hm)
    simpa using this)
  obtain ⟨tv, lv, T, L, rfl, hT, hL⟩ := open_truth (hval 1 _ v1 rfl rfl) h1 (fun m hm => by
    have := List.all_eq_true.1 hsz m (DataW.weights_mem_each (j := 1) rfl rfl m hm)
    simpa using this)
  refine (ratCounts_any c r t u n tv lv T L W hc hT hL).mono fun e W' ⟨he, hb⟩ => ?_
  subst he
  have hlt0 : ∀ x ∈ p0, x.block < W.heap.size := fun x hx => hW0.lt x (by simp [hx])
  have s0 := Below.trod laidOut_yes (by kernel_rfl) (of_decide_eq_true (by kernel_rfl)) k0 hb hlt0
  have hlt1 : ∀ x ∈ p1, x.block < W.heap.size := fun x hx => hW0.lt x (by simp [hx])
  have s1 := Below.trod laidOut_yes (by kernel_rfl) (of_decide_eq_true (by kernel_rfl)) k1 hb hlt1
  exact ⟨_, rfl, _, _, _, [], _, _, hW0, trodAll_mk1 (shut_bool Try.underlying4 true), trodAll_mk2 s0 s1, rfl, hb.frame _, fun h => by cases h⟩

theorem ratCounts_holds : Rows.RatCountsSaid :=
  OpenClaim.holds_of_wide 14 Try.f14 rfl rfl rfl rfl rfl rfl rfl ⟨rfl, rfl, rfl, rfl, rfl⟩ rfl rfl rfl rfl rfl (by kernel_rfl) Try.func14 (by kernel_rfl)
    (of_decide_eq_true (by kernel_rfl)) (by unfold Func.isWrapper; first | (rw [if_pos (by decide +kernel)]; kernel_rfl) | (rw [if_neg (by decide +kernel)]; exact ⟨rfl, rfl⟩))
    (fun os started H enc _ => ratCounts_lifted os started H enc)
end Go.Proofs.Ytnhifinfjfpoiaa
