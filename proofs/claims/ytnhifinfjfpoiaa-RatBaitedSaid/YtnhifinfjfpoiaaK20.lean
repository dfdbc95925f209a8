/- Is a run among those of a colony, or turned round? The question RatMore asks. Some houses, in order. After and Need of rat: their answers lie in new memory. -/
import Derived.Test.YtnhifinfjfpoiaaK10
import Derived.Test.YtnhifinfjfpoiaaK15
import Derived.Test.YtnhifinfjfpoiaaK04
import Derived.Test.YtnhifinfjfpoiaaK05
import Derived.Deep.Onto
namespace Go.Proofs.Ytnhifinfjfpoiaa
open Go.RowKit
set_option linter.unusedVariables false
set_option linter.unusedSimpArgs false

theorem more1_any (b : Nat) (x y a c : Int) (w : World) (h : w.heap[b]? = some (.cells #[.int .i64 a, .int .i64 c] 63 (0, 0))) :
    Calls Try.prog 40 #[.agg #[.int .i64 x, .int .i64 y], .pointer (some ⟨b, 0, none⟩)] w fun e w' => e = .returned (.bool (joinsB (x, y) a c)) ∧ Below w.heap.size w w' := by
  have hbw : Below w.heap.size w (w.alloc (.cells #[.int .i64 x, .int .i64 y] 63)) := (Below.refl _ _).alloc (Nat.le_refl _) _
  have hblt : b < w.heap.size := (Array.getElem?_eq_some_iff.1 h).1
  have m1 : (w.alloc (.cells #[.int .i64 x, .int .i64 y] 63)).cell? ⟨b, 0, none⟩ = some (.int .i64 a) := (cell_of_row _ b 0 _ _ _ ((hbw.block b hblt).trans h)).trans rfl
  have m2 : (w.alloc (.cells #[.int .i64 x, .int .i64 y] 63)).cell? ⟨b, 1, none⟩ = some (.int .i64 c) := (cell_of_row _ b 1 _ _ _ ((hbw.block b hblt).trans h)).trans rfl
  have HB := Lib.hid hbw
  clear hbw h hblt
  cases h1 : (x == a) <;> cases h2 : (y == c) <;> cases h3 : (x == c) <;> cases h4 : (y == a)
  all_goals
    have hj : joinsB (x, y) a c = ((x == a && y == c) || (x == c && y == a)) := rfl
    rw [hj, h1, h2, h3, h4]
    clear hj
    go_enter Try.func40, Try.ntmps40
    go_wp2_with fail
    go_ret
    exact ⟨ret_bool (by first | rfl | simp [*]), HB.out⟩
theorem more_any (v : Value) (rs : List (Int × Int)) (b : Nat) (a c : Int) (w : World) (h : IsPairs w w.heap.size v rs) (hb : w.heap[b]? = some (.cells #[.int .i64 a, .int .i64 c] 63 (0, 0))) :
    Calls Try.prog 39 #[v, .func (.func 40) #[] #[.pointer (some ⟨b, 0, none⟩)]] w fun e w' => e = .returned (.bool (anyB (fun i => joinsB (nthP rs i) a c) rs.length)) ∧ Below w.heap.size w w' := by
  have hblt : b < w.heap.size := (Array.getElem?_eq_some_iff.1 hb).1
  refine containsRuns_any v rs.length _ _ _ (pcell rs) w h.1 ⟨Try.call40, fun i hi w' hw hB => ?_⟩
  have e : (#[Value.agg #[pcell rs (i * 2), pcell rs (i * 2 + 1)]] ++ #[Value.pointer (some ⟨b, 0, none⟩)]) = #[.agg #[.int .i64 (nthP rs i).1, .int .i64 (nthP rs i).2], .pointer (some ⟨b, 0, none⟩)] := by
    have e1 : i * 2 % 2 = 0 := by omega
    have e2 : (i * 2 + 1) % 2 = 1 := by omega
    have e3 : i * 2 / 2 = i := by omega
    have e4 : (i * 2 + 1) / 2 = i := by omega
    simp [pcell, e1, e2, e3, e4]
  rw [e]
  exact more1_any b _ _ a c w' ((hw.block b hblt).trans hb)
end Go.Proofs.Ytnhifinfjfpoiaa

namespace Go.Proofs.Ytnhifinfjfpoiaa
open Go.RowKit
set_option linter.unusedVariables false
set_option linter.unusedSimpArgs false

/-- Some of the houses below h, in order. -/
structure SomeTo (h : Nat) (l : List Int) : Prop where
  inc : ∀ i j, i < j → j < l.length → nth l i < nth l j
  few : l.length ≤ h
  house : ∀ i, i < l.length → 0 ≤ nth l i ∧ nth l i < h
theorem SomeTo.nil : SomeTo 0 [] := ⟨fun i j _ hj => by simp at hj, Nat.le_refl _, fun i hi => by simp at hi⟩
theorem SomeTo.skip {h : Nat} {l : List Int} (I : SomeTo h l) : SomeTo (h + 1) l := ⟨I.inc, Nat.le_succ_of_le I.few, fun i hi => by have := I.house i hi; omega⟩
theorem SomeTo.more {h : Nat} {l : List Int} (I : SomeTo h l) : SomeTo (h + 1) (l ++ [(h : Int)]) := by
  refine ⟨fun i j hij hj => ?_, by simp; exact I.few, fun i hi => ?_⟩
  · have hj' : j ≤ l.length := by simp at hj; omega
    rw [nth_snoc (show i < l.length by omega)]
    by_cases e : j = l.length
    · rw [e, nth_last]; exact (I.house i (by omega)).2
    · rw [nth_snoc (by omega)]; exact I.inc i j hij (by omega)
  · by_cases e : i = l.length
    · rw [e, nth_last]; omega
    · have hi' : i < l.length := by simp at hi; omega
      rw [nth_snoc hi']; have := I.house i hi'; omega
theorem SomeTo.incB {h : Nat} {l : List Int} (I : SomeTo h l) : incB l = true := by
  unfold Go.Proofs.Ytnhifinfjfpoiaa.incB
  rw [allB_iff]
  intro i hi
  simpa using I.inc i (i + 1) (by omega) (by omega)
end Go.Proofs.Ytnhifinfjfpoiaa

namespace Go.Proofs.Ytnhifinfjfpoiaa
open Go.RowKit
set_option linter.unusedVariables false
set_option linter.unusedSimpArgs false

set_option maxRecDepth 100000 in
set_option maxHeartbeats 2000000 in
theorem After_own (c : Col) (r t u n : Value) (w : World) (hc : ColAt w w.heap.size r t u n c) (hk : fitErr c = 0) :
    Calls Try.prog 28 #[.agg #[r, t, u, n]] w fun e w' => ∃ v, e = .returned (.tuple #[v, .int .i64 0]) ∧ w'.ownsRow w.heap.size 3 1 v c.rooms.length (intsV (afterC c)) ∧ Below w.heap.size w w' := by
  have o2 := (okCol_of (fit_parts hk).1).houses.2
  have hBW : Below w.heap.size w (w.alloc (.cells #[r, t, u, n] 26)) := (Below.refl w.heap.size w).alloc (Nat.le_refl _) _
  have hcA := (hc.below hBW (Nat.le_refl _)).mono (B' := (w.alloc (.cells #[r, t, u, n] 26)).heap.size) (by simp)
  have HCK := Lib.hid (fitting_ok c r t u n _ hcA hk)
  have c0 : (w.alloc (.cells #[r, t, u, n] 26)).cell? ⟨w.heap.size, 0, none⟩ = some r := by simp [go_sem]
  have HI0 := Lib.hid (info_parts infoInt)
  obtain ⟨hr, htr, hu, hn⟩ := hc
  obtain ⟨ar, cr, rfl, _⟩ := hr.open
  obtain ⟨at_, ct, rfl, _⟩ := htr.open
  obtain ⟨au, cu, rfl, _⟩ := hu.open
  obtain ⟨an, cn, rfl, _⟩ := hn.open
  have HB := Lib.hid hBW
  clear hr htr hu hn hBW hk hcA
  go_enter Try.func28, Try.ntmps28
  go_wp2_with fail
  refine HCK.out.mono ?_
  rintro e w1 ⟨p, rfl, hb1, hd⟩
  have c1 := (hb1.cell (p := ⟨w.heap.size, 0, none⟩) (by simp)).trans c0
  have hlt0 : w.heap.size < w1.heap.size := Nat.lt_of_lt_of_le (by simp) hb1.size
  have HD := Lib.hid (And.intro hb1 (And.intro hd c1))
  have HC1 := Lib.hid c1
  clear hb1 hd c0 c1
  have hkey : ∀ w2 : World, Below w1.heap.size w1 w2 → w2.cell? ⟨w.heap.size, 0, none⟩ = some (.slice ar c.rooms.length cr) := fun w2 h => (h.cell (p := ⟨w.heap.size, 0, none⟩) hlt0).trans HC1.out
  have HK := Lib.hid hkey; clear hkey
  go_wp2_with (go_at_call 98; refine (left_any c p _ HD.out.2.1).mono ?_; rintro e w2 ⟨rfl, hb2⟩; have H2 := Lib.hid hb2; have c2 := HK.out (w2.alloc (.cells (six (leftC c)) 124)) (hb2.alloc hb2.size _); unfold six at c2; clear hb2; simp only [six])
  obtain ⟨W3, hW3⟩ : ∃ W3, (w2.alloc (.cells (six (leftC c)) 124)) = W3 := ⟨_, rfl⟩
  have hs3 : SixIs W3 w2.heap.size 124 (leftC c) := by rw [← hW3]; exact heap_alloc_new _ _
  have hb3 : Below w1.heap.size w1 W3 := by rw [← hW3]; exact H2.out.alloc H2.out.size _
  have hle2 := H2.out.size
  unfold six at hW3
  rw [hW3]
  have H3 := Lib.hid (And.intro hs3 hb3)
  clear hW3 hs3 hb3 c2
  go_loopw [8, 24] (fun v i wr => ∃ k : Nat, k ≤ c.rooms.length ∧ i = .int .i64 k ∧ Hid (wr.ownsRow w1.heap.size 3 1 v k (intsV (afterTo c k)) ∧ SixIs wr w2.heap.size 124 (leftC c) ∧ Below w1.heap.size w1 wr)) (fun _ i _ => c.rooms.length - (intOf i).toNat)
  case atStart => exact ⟨0, Nat.zero_le _, rfl, World.ownsRow_nil _ _ _ _, H3.out.1, H3.out.2⟩
  case round =>
    obtain ⟨k, hk, rfl, hrel⟩ := hrel
    obtain ⟨i0, hi, hz0, hz1, hz2⟩ := HI0.out
    by_cases hlt : k < c.rooms.length
    · obtain ⟨hown, hsix, hB⟩ := hrel.out
      have hk6 : (k : Int) < 6 := by omega
      have hc3 := hsix.cell k (by omega)
      have hsz1 := hB.size
      have HR := Lib.hid (And.intro hown (And.intro hsix hB))
      have HDK := Lib.hid (HD.out.2.1.below hB)
      clear hrel hown hsix hB
      go_wp2_with (first | (at_builtin; refine wpList_append_own _ rfl _ _ 22 rfl w1.heap.size 3 i0 (.int .i64 0) 1 8 Try.underlying22 hi hz0 hz1 hz2 rfl (by decide) _ _ _ rfl HO.out ⟨w4.heap.size, 0, none⟩ 1 1 [.int .i64 (mostC c (fitX c).all (leftC c k))] rfl rfl (cell_one_new _ _ _) (fun x hx => by simp at hx; subst hx; rfl) (by unfold maxLen; omega) (by omega) (by simp; omega) ?_; intro v' w5 hown' hgrow _; have HG := Lib.hid (And.intro hown' hgrow); clear hown' hgrow) | (go_at_call 99; refine (most_any c p _ _ (leftC_lt c o2 k) _ HDK.out).mono ?_; rintro e w4 ⟨rfl, hb4⟩; have H4 := Lib.hid hb4; have hsz4 := hb4.size; have HO := Lib.hid ((owns_below HR.out.1 hb4).alloc (.cells #[.int .i64 (mostC c (fitX c).all (leftC c k))] 3)); clear hb4))
      go_roundw
      case rel =>
        obtain ⟨hown, hsix, hB⟩ := HR.out
        obtain ⟨hown', hgrow⟩ := HG.out
        have hb4 := H4.out
        have hbA : Below w1.heap.size w1 (w4.alloc (.cells #[.int .i64 (mostC c (fitX c).all (leftC c k))] 3)) := (hB.trans (hb4.mono hsz1)).alloc (by omega) _
        have hlt2 : w2.heap.size < wr.heap.size := (Array.getElem?_eq_some_iff.1 hsix).1
        have hsixA : SixIs (w4.alloc (.cells #[.int .i64 (mostC c (fitX c).all (leftC c k))] 3)) w2.heap.size 124 (leftC c) := hsix.below ((hb4.alloc hsz4 _)) hlt2
        refine ⟨k + 1, by omega, by go_num, ?_, (hgrow.block _ (by simp; omega) (not_own HO.out hsixA (by decide))).trans hsixA, below_grown hbA hgrow (fun r hr => (HO.out.lt r hr).1) (by simp; omega)⟩
        rw [afterTo_succ, intsV_app]
        exact hown'
      case measure => simp [intOf]; omega
    · obtain rfl : k = c.rooms.length := by omega
      go_wp2_with fail
      go_ret2
      have h1 := HB.out.trans (HD.out.1.mono (by simp))
      exact ⟨_, rfl, World.ownsRow.mono hrel.out.1 (Nat.le_trans (Nat.le_succ _) (by have := HD.out.1.size; simpa using this)), h1.trans (hrel.out.2.2.mono h1.size)⟩
set_option maxRecDepth 100000 in
set_option maxHeartbeats 4000000 in
theorem Need_own (c : Col) (r t u n : Value) (w : World) (hc : ColAt w w.heap.size r t u n c) (hk : fitErr c = 0) :
    Calls Try.prog 30 #[.agg #[r, t, u, n]] w fun e w' => ∃ v, e = .returned (.tuple #[v, .int .i64 0]) ∧ w'.ownsRow w.heap.size 3 1 v c.rooms.length (intsV (needC c)) ∧ Below w.heap.size w w' := by
  have o2 := (okCol_of (fit_parts hk).1).houses.2
  have hBW : Below w.heap.size w (w.alloc (.cells #[r, t, u, n] 26)) := (Below.refl w.heap.size w).alloc (Nat.le_refl _) _
  have hcA := (hc.below hBW (Nat.le_refl _)).mono (B' := (w.alloc (.cells #[r, t, u, n] 26)).heap.size) (by simp)
  have HCK := Lib.hid (fitting_ok c r t u n _ hcA hk)
  have c0 : (w.alloc (.cells #[r, t, u, n] 26)).cell? ⟨w.heap.size, 0, none⟩ = some r := by simp [go_sem]
  have HI0 := Lib.hid (info_parts infoInt)
  obtain ⟨hr, htr, hu, hn⟩ := hc
  obtain ⟨ar, cr, rfl, _⟩ := hr.open
  obtain ⟨at_, ct, rfl, _⟩ := htr.open
  obtain ⟨au, cu, rfl, _⟩ := hu.open
  obtain ⟨an, cn, rfl, _⟩ := hn.open
  have HB := Lib.hid hBW
  clear hr htr hu hn hBW hk hcA
  refine (callsIn_wide (n := 9)).1 ?_
  refine callsIn_of_wp_marks Try.func30 rfl trivial ?_ rfl
  simp only [Try.ntmps30, List.size_toArray, List.length_cons, List.length_nil, Nat.reduceAdd, Nat.reduceSub, Array.replicate_succ, Array.replicate_zero, List.push_toArray, List.append_toArray, List.nil_append, List.cons_append]
  have hkey0 : ∀ w1 w2 : World, Below (w.alloc (.cells #[.slice ar c.rooms.length cr, .slice at_ c.traps.length ct, .slice au c.runs.length cu, .slice an c.nights.length cn] 26)).heap.size (w.alloc (.cells #[.slice ar c.rooms.length cr, .slice at_ c.traps.length ct, .slice au c.runs.length cu, .slice an c.nights.length cn] 26)) w1 → Below w1.heap.size w1 w2 → w2.cell? ⟨w.heap.size, 0, none⟩ = some (.slice ar c.rooms.length cr) := fun w1 w2 h h2 => (h2.cell (p := ⟨w.heap.size, 0, none⟩) (Nat.lt_of_lt_of_le (by simp) h.size)).trans ((h.cell (p := ⟨w.heap.size, 0, none⟩) (by simp)).trans c0)
  have HK := Lib.hid hkey0; clear hkey0 c0
  gi_wp2_with (first | (refine ⟨trivial, ?_⟩; gi_at_call 98; refine (callsIn_wide.2 (left_any c p _ HD.out.2)).mono ?_; rintro e w2 ⟨rfl, hb2⟩; have H2 := Lib.hid hb2; have c2 := HK.out w1 (w2.alloc (.cells (six (leftC c)) 124)) HD.out.1 (hb2.alloc hb2.size _); unfold six at c2; clear hb2; simp only [six]) | (refine ⟨trivial, ?_⟩; gi_at_call 97; refine (callsIn_wide.2 HCK.out).mono ?_; rintro e w1 ⟨p, rfl, hb1, hd⟩; have HD := Lib.hid (And.intro hb1 hd); clear hb1 hd))
  have hb2 := H2.out
  have hs3 : SixIs (w2.alloc (.cells (six (leftC c)) 124)) w2.heap.size 124 (leftC c) := heap_alloc_new _ _
  have hb3 : Below w1.heap.size w1 (w2.alloc (.cells (six (leftC c)) 124)) := hb2.alloc hb2.size _
  have H3 := Lib.hid (And.intro hs3 hb3)
  clear hb2 hs3 hb3 c2
  unfold six at H3
  refine wpIn_loop (NeedI c p w2.heap.size w1) (fun a _ => c.rooms.length - (intOf (a.tmps.getD 26 undef)).toNat) ?_ ?_
  · exact ⟨0, .slice none 0 0, _, _, _, _, _, _, _, _, _, _, _, _, _, _, _, _, _, _, _, _, _, _, _, _, _, _, _, _, _, _, _, _, _, _, _, _, _, _, _, _, _, _, _, _, _, [], rfl, Nat.zero_le _, World.ownsRow_nil _ _ _ _, H3.out.1, H3.out.2, MarksLt.nil _ _ _⟩
  · rintro a wr ⟨k, v, u0, u1, u2, u3, u6, u9, u10, u11, u12, u13, u14, u15, u16, u17, u18, u19, u20, u21, u22, u23, u24, u27, u28, u29, u30, u31, u32, u33, u34, u35, u36, u37, u38, u39, u40, u41, u42, u43, u44, u45, u46, u47, u48, u49, u50, ds, rfl, hk, hown, hsix, hB, hmk⟩
    obtain ⟨i0, hi, hz0, hz1, hz2⟩ := HI0.out
    have HR := Lib.hid (And.intro hown (And.intro hsix (And.intro hB hmk)))
    have hsz1 := hB.size
    have hlt2 : w2.heap.size < wr.heap.size := (Array.getElem?_eq_some_iff.1 hsix).1
    by_cases hlt : k < c.rooms.length
    · have hk6 : (k : Int) < 6 := by omega
      have hdr := HD.out.2.below hB
      have hpl := hdr.1
      obtain ⟨_, _, _, _, _, _, _, _, _, hnear, _⟩ := hdr.open
      have c4 : (wr.alloc (.cells #[.int .i64 0] 123)).cell? ⟨p, 4 + k, none⟩ = some (.int .i64 (nearC c k)) := (((Below.refl wr.heap.size wr).alloc (Nat.le_refl _) _).cell (p := ⟨p, 4 + k, none⟩) hpl).trans (hnear k (by omega))
      clear hown hsix hB hmk hnear hdr
      have hnl := nearC_lt c k
      gi_wp2_with (refine ⟨trivial, ?_⟩; gi_at_call 103; refine (houses_in Fence.wide _ _ trivial rfl _).mono ?_; rintro e w' ⟨rfl, rfl⟩)
      have x2 : Boxed ((wr.alloc (.cells #[.int .i64 0] 123)).alloc (.cells #[.int .i64 (nearC c k)] 123)) wr.heap.size 123 (.int .i64 0) := (Boxed.new wr _ _).alloc _
      have x3 : Boxed ((wr.alloc (.cells #[.int .i64 0] 123)).alloc (.cells #[.int .i64 (nearC c k)] 123)) (wr.heap.size + 1) 123 (.int .i64 (nearC c k)) := by
        have := Boxed.new (wr.alloc (.cells #[.int .i64 0] 123)) 123 (.int .i64 (nearC c k))
        rw [World.size_alloc] at this
        exact this
      have hb4 : Below wr.heap.size wr ((wr.alloc (.cells #[.int .i64 0] 123)).alloc (.cells #[.int .i64 (nearC c k)] 123)) := ((Below.refl _ wr).alloc (Nat.le_refl _) _).alloc (by simp) _
      have hs4 : ((wr.alloc (.cells #[.int .i64 0] 123)).alloc (.cells #[.int .i64 (nearC c k)] 123)).heap.size = wr.heap.size + 2 := by simp
      obtain ⟨W4, hW4⟩ : ∃ W4, ((wr.alloc (.cells #[.int .i64 0] 123)).alloc (.cells #[.int .i64 (nearC c k)] 123)) = W4 := ⟨_, rfl⟩
      rw [hW4] at x2 x3 hb4 hs4 ⊢
      clear hW4 c4
      refine need_round c o2 _ w2.heap.size wr.heap.size (wr.heap.size + 1) hnl W4 (HR.out.2.1.below hb4 hlt2) x2 x3 (by omega) (by omega) _ _ _ _ _ _ _ _ _ _ _ _ _ _ _ _ _ _ _ _ _ _ _ _ _ _ _ _ _ _ _ _ _ _ _ _ _ _ _ _ _ _ _ _ _ _ _ _ ds _ ?_
      intro D W5 g1 g2 hD hK
      have hDlt := (Array.getElem?_eq_some_iff.1 hK).1
      have e1 := g1.cell
      have hb5 : Below wr.heap.size wr W5 := hb4.trans (g2.below (by omega) (Nat.le_refl _) (Nat.le_refl _) (Nat.le_refl _))
      have hB5 := HR.out.2.2.1.trans (hb5.mono hsz1)
      have hd5 := HD.out.2.below hB5
      have hsz5 := hb5.size
      have m5 : MarksLt w1.heap.size W5.heap.size ({ target := .collected D, args := #[] } :: ds) W5 := (HR.out.2.2.2.below hb5 (Nat.le_refl _)).cons (by omega) (by omega) hDlt hK
      have H5 := Lib.hid (And.intro (owns_below HR.out.1 hb5) (And.intro (HR.out.2.1.below hb5 hlt2) (And.intro hB5 m5)))
      have HD5 := Lib.hid hd5
      clear g1 g2 hK hb5 m5 x2 x3 hb4 hs4 hB5 hd5
      gi_wp2_with (first | (gi_at_builtin; refine wpListIn_append_own _ rfl _ _ 22 rfl w1.heap.size 3 i0 (.int .i64 0) 1 8 Try.underlying22 hi hz0 hz1 hz2 rfl (by decide) _ _ _ rfl HO.out ⟨w6.heap.size, 0, none⟩ 1 1 [.int .i64 (mostC c (fitX c).all (needFrom c k))] rfl rfl (cell_one_new _ _ _) (fun x hx => by simp at hx; subst hx; rfl) (by unfold maxLen; omega) (by omega) (by simp; omega) ?_; intro v' w7 hown' hgrow _; have HG := Lib.hid (And.intro hown' hgrow); clear hown' hgrow) | (refine ⟨trivial, ?_⟩; gi_at_call 99; refine (callsIn_wide.2 (most_any c p _ _ (needAcc_lt c o2 (members (nearC c k))) _ HD5.out)).mono ?_; rintro e w6 ⟨rfl, hb6⟩; have H6 := Lib.hid hb6; have hsz6 := hb6.size; have HO := Lib.hid ((owns_below H5.out.1 hb6).alloc (.cells #[.int .i64 (mostC c (fitX c).all (needFrom c k))] 3)); clear hb6))
      obtain ⟨o5, s5, B5, m5⟩ := H5.out
      obtain ⟨hown', hgrow⟩ := HG.out
      have hb6 := H6.out
      have hbA : Below w1.heap.size w1 (w6.alloc (.cells #[.int .i64 (mostC c (fitX c).all (needFrom c k))] 3)) := (B5.trans (hb6.mono (by omega))).alloc (by omega) _
      have hb6A : Below W5.heap.size W5 (w6.alloc (.cells #[.int .i64 (mostC c (fitX c).all (needFrom c k))] 3)) := hb6.alloc hb6.size _
      have hsixA := s5.below hb6A (by omega)
      have hszA := hgrow.size
      have m6 := (m5.below hb6A (Nat.le_refl _)).grown HO.out hgrow
      refine ⟨⟨k + 1, v', _, _, _, _, _, _, _, _, _, _, _, _, _, _, _, _, _, _, _, _, _, _, _, _, _, _, _, _, _, _, _, _, _, _, _, _, _, _, _, _, _, _, _, _, _, _, rfl, by omega, ?_, (hgrow.block _ (by simp; omega) (not_own HO.out hsixA (by decide))).trans hsixA, below_grown hbA hgrow (fun r hr => (HO.out.lt r hr).1) (by simp; omega), m6.mono (by simp at hszA; omega)⟩, ?_⟩
      · rw [needTo_succ, intsV_app]; exact hown'
      · simp [intOf]; omega
    · obtain rfl : k = c.rooms.length := by omega
      clear hown hsix hB hmk
      gi_wp2_with fail
      refine ret_swept HR.out.2.2.2 (fun W' hW' => ?_)
      have h1 := HB.out.trans (HD.out.1.mono (by simp))
      have o3 := hW'.owns HR.out.1
      refine ⟨.tuple #[v, .int .i64 0], by simp [results, Try.results30, go_sem], v, rfl, World.ownsRow.mono o3 (Nat.le_trans (Nat.le_succ _) (by have := HD.out.1.size; simpa using this)), ?_⟩
      exact (h1.trans (HR.out.2.2.1.mono h1.size)).trans (hW'.below.mono h1.size)
end Go.Proofs.Ytnhifinfjfpoiaa
