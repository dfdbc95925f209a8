/- Contracts of the reference's Rats. Contract of the reference's After. -/
import Derived.Test.YtnhifinfjfpoiaaGreatK14
import Derived.Test.YtnhifinfjfpoiaaGreatK07
namespace Go.Proofs.YtnhifinfjfpoiaaGreat
open Go.RowKit
set_option linter.unusedVariables false
set_option linter.unusedSimpArgs false

abbrev BoxC (p : Nat) (r t u n : Value) (W : World) : Prop :=
  W.cell? ⟨p, 0, none⟩ = some r ∧ W.cell? ⟨p, 1, none⟩ = some t ∧ W.cell? ⟨p, 2, none⟩ = some u ∧ W.cell? ⟨p, 3, none⟩ = some n
theorem BoxC.of {W0 W : World} {p ty : Nat} {r t u n : Value} (h : W0.heap[p]? = some (.cells #[r, t, u, n] ty (0, 0))) (hb : Below W0.heap.size W0 W) : BoxC p r t u n W := four_of (blk_on h hb)
theorem BoxC.store2 {W : World} {p s : Nat} {r t u n x y : Value} (hs : p < s) (h : BoxC p r t u n W) : BoxC p r t u n ((W.setCell ⟨s, 0, none⟩ x).setCell ⟨s, 1, none⟩ y) := by
  have hb : Below s W ((W.setCell ⟨s, 0, none⟩ x).setCell ⟨s, 1, none⟩ y) := ((Below.refl s W).setCell (p := ⟨s, 0, none⟩) (Nat.le_refl _) _).setCell (p := ⟨s, 1, none⟩) (Nat.le_refl _) _
  obtain ⟨a, b, c, d⟩ := h
  have ca := fun o => hb.cell (p := ⟨p, o, none⟩) hs
  exact ⟨(ca 0).trans a, (ca 1).trans b, (ca 2).trans c, (ca 3).trans d⟩
theorem ratsR {c : Col} (hk : fitErr c = 0) : ratsC c = (caughtR c, caughtR c + leftV c (staysL c (allL c.rooms.length c.rooms.length))) := by
  have ok := okCol_of (fit_parts hk).1
  rw [left_is hk (staysL_len _ _) (stays_all ok), rats_more ok, most_more ok, fit_all hk, tot_all]
  congr 1; omega

set_option maxRecDepth 100000 in
set_option maxHeartbeats 4000000 in
theorem rRats_bad (c : Col) (r t u n : Value) (w : World) (hc : ColAt w w.heap.size r t u n c) (hk : ¬ fitErr c = 0) :
    Calls Tryz.prog 67 #[.agg #[r, t, u, n]] w fun e w' => e = .returned (.tuple #[.agg #[.int .i64 0, .int .i64 0], .int .i64 (fitErr c)]) ∧ Below w.heap.size w w' := by
  have hBW : Below w.heap.size w ((w.alloc (.cells #[r, t, u, n] 32)).alloc (.cells #[.int .i64 0, .int .i64 0] 59)) := ((Below.refl w.heap.size w).alloc (Nat.le_refl _) _).alloc (by simp) _
  have hcA := hc.on hBW
  have HCK := Lib.hid (rfitting_any c r t u n _ hcA)
  rw [rfit_is] at HCK
  have hs : ((w.alloc (.cells #[r, t, u, n] 32)).alloc (.cells #[.int .i64 0, .int .i64 0] 59)).heap[w.heap.size + 1]? = some (.cells #[.int .i64 0, .int .i64 0] 59 (0, 0)) := by
    have := heap_alloc_new (w.alloc (.cells #[r, t, u, n] 32)) (.cells #[.int .i64 0, .int .i64 0] 59)
    rw [World.size_alloc] at this
    exact this
  obtain ⟨hr, htr, hu, hn⟩ := hc
  obtain ⟨ar, cr, rfl, _⟩ := hr.open
  obtain ⟨at_, ct, rfl, _⟩ := htr.open
  obtain ⟨au, cu, rfl, _⟩ := hu.open
  obtain ⟨an, cn, rfl, _⟩ := hn.open
  have HB := Lib.hid hBW
  have HS := Lib.hid hs
  have hk1 : (fitErr c == 0) = false := by simpa using hk
  have hk2 : (fitErr c != 0) = true := by simp [bne, hk1]
  clear hr htr hu hn hBW hk hcA hs
  go_enter Tryz.func67, Tryz.ntmps67
  go_wp2_with fail
  refine HCK.out.mono ?_
  rintro e w1 ⟨rfl, hb1⟩
  have hs1 := (hb1.block (w.heap.size + 1) (by simp)).trans HS.out
  have k0 := (cell_of_row w1 _ 0 _ _ _ hs1).trans rfl
  have k1 := (cell_of_row w1 _ 1 _ _ _ hs1).trans rfl
  have k2 := frozen_of_row w1 _ 0 _ _ hs1
  have k3 := frozen_of_row w1 _ 1 _ _ hs1
  have HD := Lib.hid hb1
  clear hb1 hs1
  go_wp2_with fail
  refine bodyPost_ret (v := .tuple #[.agg #[.int .i64 0, .int .i64 0], .int .i64 (fitErr c)]) (by simp [results, Tryz.results67, go_sem, k0, k1]) rfl ⟨rfl, ?_⟩
  have h1 := HB.out.trans (HD.out.mono (by simp; omega))
  exact (h1.setCell (p := ⟨w.heap.size + 1, 0, none⟩) (Nat.le_succ _) _).setCell (p := ⟨w.heap.size + 1, 1, none⟩) (Nat.le_succ _) _

set_option maxRecDepth 100000 in
set_option maxHeartbeats 4000000 in
theorem rRats_ok (c : Col) (r t u n : Value) (w : World) (hc : ColAt w w.heap.size r t u n c) (hk : fitErr c = 0) :
    Calls Tryz.prog 67 #[.agg #[r, t, u, n]] w fun e w' => e = .returned (.tuple #[.agg #[.int .i64 (ratsC c).1, .int .i64 (ratsC c).2], .int .i64 0]) ∧ Below w.heap.size w w' := by
  have ok := okCol_of (fit_parts hk).1
  have o2 := ok.houses.2
  have hBW : Below w.heap.size w ((w.alloc (.cells #[r, t, u, n] 32)).alloc (.cells #[.int .i64 0, .int .i64 0] 59)) := ((Below.refl w.heap.size w).alloc (Nat.le_refl _) _).alloc (by simp) _
  have hcA := hc.on hBW
  have hs : ((w.alloc (.cells #[r, t, u, n] 32)).alloc (.cells #[.int .i64 0, .int .i64 0] 59)).heap[w.heap.size + 1]? = some (.cells #[.int .i64 0, .int .i64 0] 59 (0, 0)) := by
    have := heap_alloc_new (w.alloc (.cells #[r, t, u, n] 32)) (.cells #[.int .i64 0, .int .i64 0] 59)
    rw [World.size_alloc] at this
    exact this
  have hx : ((w.alloc (.cells #[r, t, u, n] 32)).alloc (.cells #[.int .i64 0, .int .i64 0] 59)).heap[w.heap.size]? = some (.cells #[r, t, u, n] 32 (0, 0)) := keep _ (blk _ _ _ _ rfl)
  have hcheck := rfitting_any c r t u n _ hcA
  rw [rfit_is, hk] at hcheck
  obtain ⟨hr, htr, hu, hn⟩ := hc
  obtain ⟨ar, cr, rfl, _⟩ := hr.open
  obtain ⟨at_, ct, rfl, _⟩ := htr.open
  obtain ⟨au, cu, rfl, _⟩ := hu.open
  obtain ⟨an, cn, rfl, _⟩ := hn.open
  have HB := Lib.hid hBW; have HS := Lib.hid hs; have HX := Lib.hid hx; have HC := Lib.hid hcA; have HCK := Lib.hid hcheck; have HOK := Lib.hid ok; have HK := Lib.hid hk
  clear hr htr hu hn hBW hk hcA hs hx ok hcheck
  go_enter Tryz.func67, Tryz.ntmps67
  go_wp2_with fail
  refine HCK.out.mono ?_
  rintro e w1 ⟨rfl, hb1⟩
  have HC1 := Lib.hid (HC.out.on hb1)
  obtain ⟨q0, q1, q2, q3⟩ := four_of (blk_on HX.out hb1)
  have HCA1 := Lib.hid (rcaught_any c _ _ _ _ w1 HC1.out HOK.out)
  have H1 := Lib.hid hb1
  clear hb1
  go_upto_region 5 with (go_at_call 108; refine HCA1.out.mono ?_; rintro e w2 ⟨rfl, hb2⟩; have H2 := Lib.hid hb2; clear hb2)
  have H2' := Lib.hid (H1.out.trans (H2.out.mono H1.out.size))
  have HC2 := Lib.hid (HC1.out.on H2.out)
  have hx2 := blk_on (blk_on HX.out H1.out) H2.out
  have hs2 := blk_on (blk_on HS.out H1.out) H2.out
  have HPQ : Hid (∀ W, Hid (Below w2.heap.size w2 W) → BoxC w.heap.size (.slice ar c.rooms.length cr) (.slice at_ c.traps.length ct) (.slice au c.runs.length cu) (.slice an c.nights.length cn) W) := fun W h => BoxC.of hx2 h.out
  have hP : w2.drew.cell? ⟨w.heap.size, 0, none⟩ = some (.slice ar c.rooms.length cr) ∧ w2.drew.cell? ⟨w.heap.size, 1, none⟩ = some (.slice at_ c.traps.length ct) ∧ w2.drew.cell? ⟨w.heap.size, 2, none⟩ = some (.slice au c.runs.length cu) ∧ w2.drew.cell? ⟨w.heap.size, 3, none⟩ = some (.slice an c.nights.length cn) := BoxC.of hx2 (Below.refl _ _).drew
  have hb3 : Hid (Below w2.heap.size w2 w2.drew) := (Below.refl _ _).drew
  have HPS : w.heap.size < w.heap.size + 1 := Nat.lt_succ_self _
  have HEV : Hid (∀ W, Hid (Below w2.heap.size w2 W) → Calls Tryz.prog 111 #[.agg #[.slice ar c.rooms.length cr, .slice at_ c.traps.length ct, .slice au c.runs.length cu, .slice an c.nights.length cn]] W fun e w' => ∃ b, e = .returned (.slice (some ⟨b, 0, none⟩) c.rooms.length c.rooms.length) ∧ Hid (IsBools w' w'.heap.size (.slice (some ⟨b, 0, none⟩) c.rooms.length c.rooms.length) (allL c.rooms.length c.rooms.length)) ∧ Hid (Below w2.heap.size w2 w')) := fun W h => (everywhere_any c _ _ _ _ W (HC2.out.on h.out) (okCol_of (fit_parts HK.out).1).houses.2).mono fun _ w' ⟨b, h1, h2, h3, h4⟩ => by
    refine ⟨b, h1, ?_, h.out.trans (h4.mono h.out.size)⟩
    rw [allL_all]
    have h5 := h2.is (by have := HOK.out.houses.2; simp; omega)
    rw [List.length_replicate] at h5
    exact h5
  have HST : Hid (∀ W b, Hid (Below w2.heap.size w2 W) → Hid (IsBools W W.heap.size (.slice (some ⟨b, 0, none⟩) c.rooms.length c.rooms.length) (allL c.rooms.length c.rooms.length)) → Calls Tryz.prog 110 #[.agg #[.slice ar c.rooms.length cr, .slice at_ c.traps.length ct, .slice au c.runs.length cu, .slice an c.nights.length cn], .slice (some ⟨b, 0, none⟩) c.rooms.length c.rooms.length] W fun e w' => ∃ b, e = .returned (.slice (some ⟨b, 0, none⟩) c.rooms.length c.rooms.length) ∧ Hid (IsBools w' w'.heap.size (.slice (some ⟨b, 0, none⟩) c.rooms.length c.rooms.length) (staysL c (allL c.rooms.length c.rooms.length))) ∧ Hid (Below w2.heap.size w2 w')) := fun W b h hb => (stays_any c _ _ _ _ _ _ W (HC2.out.on h.out) HOK.out hb.out (allL_len _ _)).mono fun _ w' ⟨b, h1, h2, h3, h4⟩ => by
    refine ⟨b, h1, ?_, h.out.trans (h4.mono h.out.size)⟩
    have h5 := h2.is (by have := HOK.out.houses.2; rw [staysL_len]; omega)
    rw [staysL_len] at h5
    exact h5
  have HLE : Hid (∀ W b, Hid (Below w2.heap.size w2 W) → Hid (IsBools W W.heap.size (.slice (some ⟨b, 0, none⟩) c.rooms.length c.rooms.length) (staysL c (allL c.rooms.length c.rooms.length))) → Calls Tryz.prog 109 #[.agg #[.slice ar c.rooms.length cr, .slice at_ c.traps.length ct, .slice au c.runs.length cu, .slice an c.nights.length cn], .slice (some ⟨b, 0, none⟩) c.rooms.length c.rooms.length] W fun e w' => e = .returned (.int .i64 (leftV c (staysL c (allL c.rooms.length c.rooms.length)))) ∧ Hid (Below w2.heap.size w2 w') ∧ w'.cell? ⟨w.heap.size + 1, 0, none⟩ = some (.int .i64 0) ∧ w'.cell? ⟨w.heap.size + 1, 1, none⟩ = some (.int .i64 0) ∧ w'.frozen? ⟨w.heap.size + 1, 0, none⟩ = false ∧ w'.frozen? ⟨w.heap.size + 1, 1, none⟩ = false) := fun W b h hb => (rleft_any c _ _ _ _ _ _ W (HC2.out.on h.out) HOK.out (staysL_len _ _) hb.out).mono fun _ w' ⟨h1, h2⟩ => by
    have h3 := h.out.trans (h2.mono h.out.size)
    have h4 := blk_on hs2 h3
    exact ⟨h1, h3, (cell_of_row w' _ 0 _ _ _ h4).trans rfl, (cell_of_row w' _ 1 _ _ _ h4).trans rfl, frozen_of_row w' _ 0 _ _ h4, frozen_of_row w' _ 1 _ _ h4⟩
  clear q0 q1 q2 q3 HCA1 hx2 hs2
  go_region_held3 (fun w' => w'.cell? ⟨w.heap.size, 0, none⟩ = some (.slice ar c.rooms.length cr) ∧ w'.cell? ⟨w.heap.size, 1, none⟩ = some (.slice at_ c.traps.length ct) ∧ w'.cell? ⟨w.heap.size, 2, none⟩ = some (.slice au c.runs.length cu) ∧ w'.cell? ⟨w.heap.size, 3, none⟩ = some (.slice an c.nights.length cn)) (first | with_reducible assumption | with_reducible exact HPQ.out _ hb6 | with_reducible exact HPQ.out _ hb5 | with_reducible exact HPQ.out _ hb4 | exact BoxC.store2 HPS (HPQ.out _ hb6) | fail) (first | (go_at_call 111; (with_reducible refine (HEV.out _ hb3).mono ?_); rintro e w4 ⟨b4, rfl, hg4, hb4⟩) | (go_at_call 110; (with_reducible refine (HST.out _ _ hb4 hg4).mono ?_); rintro e w5 ⟨b5, rfl, hg5, hb5⟩) | (go_at_call 109; (with_reducible refine (HLE.out _ _ hb5 hg5).mono ?_); rintro e w6 ⟨rfl, hb6, k0, k1, k2, k3⟩))
  have hr2 : (ratsC c).1 = caughtR c ∧ (ratsC c).2 = caughtR c + leftV c (staysL c (allL c.rooms.length c.rooms.length)) := by rw [ratsR HK.out]; exact ⟨rfl, rfl⟩
  have hwr : IntKind.i64.wrap (caughtR c + leftV c (staysL c (allL c.rooms.length c.rooms.length))) = (ratsC c).2 := by
    have := rats_bounds HOK.out
    rw [← hr2.2, IntKind.wrap_i64]; omega
  rw [hwr, ← hr2.1]
  have HF := Lib.hid (H2'.out.trans (hb6.out.mono H2'.out.size))
  clear hP HPQ HEV HST HLE hb3 hb4 hb5 hb6 hg4 hg5 hr2 hwr
  go_wp2_with fail
  refine bodyPost_ret (v := .tuple #[.agg #[.int .i64 (ratsC c).1, .int .i64 (ratsC c).2], .int .i64 0]) (by simp [results, Tryz.results67, go_sem, k0, k1]) rfl ⟨rfl, ?_⟩
  have h1 := HB.out.trans (HF.out.mono HB.out.size)
  exact (h1.setCell (p := ⟨w.heap.size + 1, 0, none⟩) (Nat.le_succ _) _).setCell (p := ⟨w.heap.size + 1, 1, none⟩) (Nat.le_succ _) _
end Go.Proofs.YtnhifinfjfpoiaaGreat

namespace Go.Proofs.YtnhifinfjfpoiaaGreat
open Go.RowKit
set_option linter.unusedVariables false
set_option linter.unusedSimpArgs false

/-- How many the reference tells for a house. -/
def afterR (c : Col) (h : Nat) : Int := leftV c (staysL c (onlyL c.rooms.length h))
theorem onlyL_is {n h o : Nat} (hh : h < n) : nthB (onlyL n h) o = true ↔ o = h := by
  by_cases q : o < n
  · rw [nthB_eq (by simp [onlyL]; exact q), onlyL_get]; simp; exact eq_comm
  · unfold nthB; rw [List.getD_eq_getElem?_getD, List.getElem?_eq_none (by simp [onlyL]; omega)]; simp; omega
theorem afterR_is {c : Col} (hk : fitErr c = 0) {h : Nat} (hh : h < c.rooms.length) : afterR c h = mostC c (fitX c).all (leftC c h) :=
  left_is hk (staysL_len _ _) (only_mask (okCol_of (fit_parts hk).1) hh fun o => onlyL_is hh)
theorem onlyL_len (n h : Nat) : (onlyL n h).length = n := by simp [onlyL]
/-- The contracts of a chain of calls, in a world that has grown from W1. -/
theorem chain_only {c : Col} {r t u n : Value} {W1 : World} (HC : ColAt W1 W1.heap.size r t u n c) (ok : OkCol c) {h : Nat} (hh : h < c.rooms.length) : Hid (∀ W, Hid (Below W1.heap.size W1 W) → Calls Tryz.prog 98 #[.agg #[r, t, u, n], .int .i64 h] W fun e w' => ∃ b, e = .returned (.slice (some ⟨b, 0, none⟩) c.rooms.length c.rooms.length) ∧ Hid (IsBools w' w'.heap.size (.slice (some ⟨b, 0, none⟩) c.rooms.length c.rooms.length) (onlyL c.rooms.length h)) ∧ Hid (Below W1.heap.size W1 w') ∧ Hid (Below W.heap.size W w')) := fun W h' => (only_any c _ _ _ _ h W (HC.on h'.out) ok.houses.2 hh).mono fun _ w' ⟨b, h1, h2, h3, h4⟩ => by
    refine ⟨b, h1, ?_, h'.out.trans (h4.mono h'.out.size), h4⟩
    have h5 := h2.is (by have := ok.houses.2; rw [onlyL_len]; omega)
    rw [onlyL_len] at h5
    exact h5
theorem chain_stays {c : Col} {r t u n : Value} {W1 : World} {l : List Bool} (HC : ColAt W1 W1.heap.size r t u n c) (ok : OkCol c) (hl : l.length = c.rooms.length) : Hid (∀ W b q, Hid (Below W1.heap.size W1 W) → Hid (IsBools W W.heap.size (.slice b c.rooms.length q) l) → Calls Tryz.prog 110 #[.agg #[r, t, u, n], .slice b c.rooms.length q] W fun e w' => ∃ b, e = .returned (.slice (some ⟨b, 0, none⟩) c.rooms.length c.rooms.length) ∧ Hid (IsBools w' w'.heap.size (.slice (some ⟨b, 0, none⟩) c.rooms.length c.rooms.length) (staysL c l)) ∧ Hid (Below W1.heap.size W1 w') ∧ Hid (Below W.heap.size W w')) := fun W b q h hb => (stays_any c _ _ _ _ _ _ W (HC.on h.out) ok hb.out hl).mono fun _ w' ⟨b, h1, h2, h3, h4⟩ => by
    refine ⟨b, h1, ?_, h.out.trans (h4.mono h.out.size), h4⟩
    have h5 := h2.is (by have := ok.houses.2; rw [staysL_len]; omega)
    rw [staysL_len] at h5
    exact h5
theorem chain_left {c : Col} {r t u n : Value} {W1 : World} {l : List Bool} (HC : ColAt W1 W1.heap.size r t u n c) (ok : OkCol c) (hl : l.length = c.rooms.length) : Hid (∀ W b, Hid (Below W1.heap.size W1 W) → Hid (IsBools W W.heap.size (.slice (some ⟨b, 0, none⟩) c.rooms.length c.rooms.length) l) → Calls Tryz.prog 109 #[.agg #[r, t, u, n], .slice (some ⟨b, 0, none⟩) c.rooms.length c.rooms.length] W fun e w' => e = .returned (.int .i64 (leftV c l)) ∧ Hid (Below W1.heap.size W1 w') ∧ Hid (Below W.heap.size W w')) := fun W b h hb => (rleft_any c _ _ _ _ _ _ W (HC.on h.out) ok hl hb.out).mono fun _ w' ⟨h1, h2⟩ => ⟨h1, h.out.trans (h2.mono h.out.size), h2⟩

set_option maxRecDepth 100000 in
set_option maxHeartbeats 4000000 in
theorem rAfter_ok (c : Col) (r t u n : Value) (w : World) (hc : ColAt w w.heap.size r t u n c) (hk : fitErr c = 0) :
    Calls Tryz.prog 73 #[.agg #[r, t, u, n]] w fun e w' => ∃ v, e = .returned (.tuple #[v, .int .i64 0]) ∧ IsInts w' w'.heap.size v (afterC c) ∧ Below w.heap.size w w' := by
  have ok := okCol_of (fit_parts hk).1
  have o2 := ok.houses.2
  have hBW : Below w.heap.size w (w.alloc (.cells #[r, t, u, n] 32)) := (Below.refl w.heap.size w).alloc (Nat.le_refl _) _
  have hcA := hc.on hBW
  have hx : (w.alloc (.cells #[r, t, u, n] 32)).heap[w.heap.size]? = some (.cells #[r, t, u, n] 32 (0, 0)) := blk _ _ _ _ rfl
  have hcheck := rfitting_any c r t u n _ hcA
  rw [rfit_is, hk] at hcheck
  obtain ⟨i0, hi, hz0, hz1, hz2⟩ := info_parts infoInt
  obtain ⟨hr, htr, hu, hn⟩ := hc
  obtain ⟨ar, cr, rfl, _⟩ := hr.open
  obtain ⟨at_, ct, rfl, _⟩ := htr.open
  obtain ⟨au, cu, rfl, _⟩ := hu.open
  obtain ⟨an, cn, rfl, _⟩ := hn.open
  have HB := Lib.hid hBW; have HX := Lib.hid hx; have HC := Lib.hid hcA; have HCK := Lib.hid hcheck; have HOK := Lib.hid ok; have HK := Lib.hid hk
  clear hr htr hu hn hBW hk hcA hx ok hcheck
  go_enter Tryz.func73, Tryz.ntmps73
  go_wp2_with fail
  refine HCK.out.mono ?_
  rintro e w1 ⟨rfl, hb1⟩
  have HC1 := Lib.hid (HC.out.on hb1)
  have HX1 := Lib.hid (blk_on HX.out hb1)
  have H1 := Lib.hid hb1
  clear hb1
  go_wp2_with fail
  go_loopw [5, 6] (fun v i wr => ∃ k : Nat, k ≤ c.rooms.length ∧ i = .int .i64 k ∧ Hid (wr.ownsRow w1.heap.size 3 1 v k (intsV (afterTo c k)) ∧ Below w1.heap.size w1 wr)) (fun _ i _ => c.rooms.length - (intOf i).toNat)
  case atStart => exact ⟨0, Nat.zero_le _, rfl, World.ownsRow_nil _ _ _ _, Below.refl _ _⟩
  case round =>
    obtain ⟨k, hk, rfl, HR⟩ := hrel
    obtain ⟨av, cv, rfl⟩ := owns_slice HR.out.1
    obtain ⟨q0, q1, q2, q3⟩ := four_of (blk_on HX1.out HR.out.2)
    by_cases hlt : k < c.rooms.length
    · have hki : (k : Int) < c.rooms.length := by omega
      have hxr := blk_on HX1.out HR.out.2
      have hcr := HC1.out
      have hx1 := HX1.out
      have HPQ : Hid (∀ W, Hid (Below w1.heap.size w1 W) → BoxB w1 w.heap.size (.slice ar c.rooms.length cr) (.slice at_ c.traps.length ct) (.slice au c.runs.length cu) (.slice an c.nights.length cn) W) := fun W h => BoxB.of hx1 h.out
      have hP : wr.drew.cell? ⟨w.heap.size, 0, none⟩ = some (.slice ar c.rooms.length cr) ∧ wr.drew.cell? ⟨w.heap.size, 1, none⟩ = some (.slice at_ c.traps.length ct) ∧ wr.drew.cell? ⟨w.heap.size, 2, none⟩ = some (.slice au c.runs.length cu) ∧ wr.drew.cell? ⟨w.heap.size, 3, none⟩ = some (.slice an c.nights.length cn) ∧ Hid (Below w1.heap.size w1 wr.drew) := BoxB.of hx1 HR.out.2.drew
      have HON := chain_only hcr HOK.out hlt
      have HST := chain_stays hcr HOK.out (onlyL_len c.rooms.length k)
      have HLE := chain_left hcr HOK.out (staysL_len c (onlyL c.rooms.length k))
      have hsz := HR.out.2.size
      clear hxr hcr
      go_upto_region 8 with (fail)
      clear q0 q1 q2 q3
      go_region_held3 (fun w' => w'.cell? ⟨w.heap.size, 0, none⟩ = some (.slice ar c.rooms.length cr) ∧ w'.cell? ⟨w.heap.size, 1, none⟩ = some (.slice at_ c.traps.length ct) ∧ w'.cell? ⟨w.heap.size, 2, none⟩ = some (.slice au c.runs.length cu) ∧ w'.cell? ⟨w.heap.size, 3, none⟩ = some (.slice an c.nights.length cn) ∧ Hid (Below w1.heap.size w1 w')) (first | with_reducible assumption | exact HPQ.out _ (by assumption) | exact BoxB.alloc HPQ (by assumption) | fail) (first | (go_at_call 98; (with_reducible refine (HON.out _ (by exact (by assumption : _ ∧ _ ∧ _ ∧ _ ∧ Hid _).2.2.2.2)).mono ?_); rintro e w4 ⟨b4, rfl, hg4, hb4, hy4⟩) | (go_at_call 110; (with_reducible refine (HST.out _ _ _ (by exact (by assumption : _ ∧ _ ∧ _ ∧ _ ∧ Hid _).2.2.2.2) hg4).mono ?_); rintro e w5 ⟨b5, rfl, hg5, hb5, hy5⟩) | (go_at_call 109; (with_reducible refine (HLE.out _ _ (by exact (by assumption : _ ∧ _ ∧ _ ∧ _ ∧ Hid _).2.2.2.2) hg5).mono ?_); rintro e w6 ⟨rfl, hb6, hy6⟩; have hs6 := hb6.out.size; have HO := Lib.hid ((owns_below (owns_below (owns_below HR.out.1 ((Below.refl wr.heap.size wr).drew.trans hy4.out)) hy5.out) hy6.out).alloc (.cells #[.int .i64 (leftV c (staysL c (onlyL c.rooms.length k)))] 3))) | (refine step_append_lies _ (by rfl) _ _ _ (by rfl) w1.heap.size 3 i0 (.int .i64 0) 1 8 Tryz.underlying22 hi hz0 hz1 hz2 rfl (by decide) (.slice av k cv) k (intsV (afterTo c k)) (by rfl) HO.out ⟨w6.heap.size, 0, none⟩ 1 1 [.int .i64 (leftV c (staysL c (onlyL c.rooms.length k)))] (by rfl) rfl (World.news_of_block (heap_alloc_new _ _)) (fun y hy => by simp at hy; subst hy; rfl) (by decide) (by unfold maxLen; omega) (by omega) (by simp; omega) (w6.heap.size + 1) (by simp) ?_; intro g7 cap7 w7 hown7 hgrow7 _ _; have H7 := Lib.hid (And.intro hown7 hgrow7); have hb7 : Hid (Below w1.heap.size w1 w7) := below_grown (hb6.out.alloc hs6 _) hgrow7 (fun r hr => (HO.out.lt r hr).1) (by simp; omega); clear hown7 hgrow7))
      have HN := Lib.hid (And.intro H7.out.1 hb7.out)
      have HAR := Lib.hid (afterR_is HK.out hlt)
      clear hP HPQ HON HST HLE hb4 hy4 hg4 hb5 hy5 hg5 hb6 hy6 HO hb7 H7
      go_wp2_with fail
      go_roundw
      case rel => exact ⟨k + 1, by omega, by go_num, by rw [afterTo_succ, intsV_app, ← HAR.out]; exact HN.out.1, HN.out.2⟩
      case measure => simp [intOf]; omega
    · obtain rfl : k = c.rooms.length := by omega
      go_wp2_with fail
      go_ret2
      have h1 := HB.out.trans (H1.out.mono HB.out.size)
      refine ⟨_, rfl, nums_of_owns (b := w1.heap.size) (e := 3) (by rw [afterC, afterTo_len]; exact HR.out.1) (afterTo_i64 c _) (by rw [afterC, afterTo_len]; omega), h1.trans (HR.out.2.mono h1.size)⟩
set_option maxRecDepth 100000 in
set_option maxHeartbeats 4000000 in
theorem rAfter_bad (c : Col) (r t u n : Value) (w : World) (hc : ColAt w w.heap.size r t u n c) (hk : ¬ fitErr c = 0) :
    Calls Tryz.prog 73 #[.agg #[r, t, u, n]] w fun e w' => e = .returned (.tuple #[.slice none 0 0, .int .i64 (fitErr c)]) ∧ Below w.heap.size w w' := by
  have hBW : Below w.heap.size w (w.alloc (.cells #[r, t, u, n] 32)) := (Below.refl w.heap.size w).alloc (Nat.le_refl _) _
  have hcA := (hc.below hBW (Nat.le_refl _)).mono (B' := (w.alloc (.cells #[r, t, u, n] 32)).heap.size) (by simp)
  have HCK := Lib.hid (rfitting_any c r t u n _ hcA)
  rw [rfit_is] at HCK
  obtain ⟨hr, htr, hu, hn⟩ := hc
  obtain ⟨ar, cr, rfl, _⟩ := hr.open
  obtain ⟨at_, ct, rfl, _⟩ := htr.open
  obtain ⟨au, cu, rfl, _⟩ := hu.open
  obtain ⟨an, cn, rfl, _⟩ := hn.open
  have HB := Lib.hid hBW
  have hk1 : (fitErr c == 0) = false := by simpa using hk
  have hk2 : (fitErr c != 0) = true := by simp [bne, hk1]
  clear hr htr hu hn hBW hk hcA
  go_enter Tryz.func73, Tryz.ntmps73
  go_wp2_with fail
  refine HCK.out.mono ?_
  rintro e w1 ⟨rfl, hb1⟩
  go_wp2_with fail
  go_ret2
  exact ⟨rfl, HB.out.trans (hb1.mono (by simp))⟩
end Go.Proofs.YtnhifinfjfpoiaaGreat
