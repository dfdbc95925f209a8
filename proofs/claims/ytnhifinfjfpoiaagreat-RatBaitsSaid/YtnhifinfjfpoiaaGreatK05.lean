/- Contract of desk.reaches: the houses that a bait in a house reaches. Contracts of rat.Reaches and rat.Gone; every over a method value. Contract of rat.Gone. Contract of rat.Short. Contract of rat.Need. Contract of rat.Starts. -/
import Derived.Test.YtnhifinfjfpoiaaGreatK04
import Derived.Test.YtnhifinfjfpoiaaGreatK03
import Derived.StillTailTactics
namespace Go.Proofs.YtnhifinfjfpoiaaGreat
open Go.RowKit
set_option linter.unusedVariables false
attribute [local go_sem] Oper.semAt_some

def reachAcc (c : Col) (s : Nat) (l : List Nat) : Nat := l.foldl (fun acc o => orN acc (nearC c o)) s
def reachN (c : Col) (h : Nat) : Nat → Nat
  | 0 => pw h
  | r + 1 => reachAcc c (reachN c h r) (members (reachN c h r))
theorem reachAcc_snoc (c : Col) (s : Nat) (l : List Nat) (o : Nat) : reachAcc c s (l ++ [o]) = orN (reachAcc c s l) (nearC c o) := by simp [reachAcc, List.foldl_append]
theorem reachAcc_lt (c : Col) : ∀ (l : List Nat) (s : Nat), s < 64 → reachAcc c s l < 64
  | [], s, h => h
  | o :: l, s, h => reachAcc_lt c l _ (orN_lt h (nearC_lt c o))
theorem reachN_lt (c : Col) (h : Nat) (hh : h < 6) : ∀ r, reachN c h r < 64
  | 0 => pw_lt hh
  | r + 1 => reachAcc_lt c _ _ (reachN_lt c h hh r)

set_option maxRecDepth 100000 in
set_option maxHeartbeats 2000000 in
theorem reach_round (c : Col) (p m a0 bd bn bI : Nat) (hm : m < 64) (ha : a0 < 64) (w0 W : World) (hd : Desk w0 p c) (hB : Below w0.heap.size w0 W) (hbn : w0.heap.size ≤ bn) (x1 : Boxed W bd 76 (.pointer (some ⟨p, 0, none⟩))) (x2 : Boxed W bn 81 (.int .i64 a0)) (x3 : Boxed W bI 81 (.int .i64 m))
    (n1 : bn ≠ bd) (n2 : bn ≠ bI) (u0 u1 u2 u4 u5 u6 u7 u9 u10 u11 u12 u13 u14 u15 u16 u18 u19 u20 u21 u22 u23 u24 u25 u26 u27 u28 u29 : Value) (ds : List Deferred) (Q : Exit → Act → World → Prop)
    (hQ : ∀ D W', Boxed W' bn 81 (.int .i64 (reachAcc c a0 (members m) : Nat)) → Kept bn bn bn W W' → W.heap.size ≤ D → W'.heap[D]? = some (.deferred (some [])) → Q .normal { tmps := #[u0, u1, u2, .pointer (some ⟨bd, 0, none⟩), u4, u5, u6, u7, .pointer (some ⟨bn, 0, none⟩), u9, u10, u11, u12, u13, u14, u15, u16, .func (.func 101) #[] #[.pointer (some ⟨bI, 0, none⟩)], u18, u19, u20, u21, u22, u23, u24, u25, u26, u27, u28, u29], defers := { target := .collected D, args := #[] } :: ds } W') :
    (sub [1, 1, 0, 1, 0, 0, 1, 1, 0, 0, 1, 0, 1, 0] (bodyOf Tryz.f43)).wpIn Fence.wide 9 Tryz.prog Q { tmps := #[u0, u1, u2, .pointer (some ⟨bd, 0, none⟩), u4, u5, u6, u7, .pointer (some ⟨bn, 0, none⟩), u9, u10, u11, u12, u13, u14, u15, u16, .func (.func 101) #[] #[.pointer (some ⟨bI, 0, none⟩)], u18, u19, u20, u21, u22, u23, u24, u25, u26, u27, u28, u29], defers := ds } W := by
  have hpl := hd.1
  obtain ⟨ar, cr, at_, ct, au, cu, an, cn, hbx, hnear, hcol⟩ := hd.open
  have HN := Lib.hid hnear; have HB := Lib.hid hB; have HX := Lib.hid (And.intro x1 (And.intro x2 x3)); have HQ := Lib.hid hQ
  have l1 := (Array.getElem?_eq_some_iff.1 x1).1
  have l2 := (Array.getElem?_eq_some_iff.1 x2).1
  have l3 := (Array.getElem?_eq_some_iff.1 x3).1
  clear hd hbx hcol hnear hB x1 x2 x3 hQ
  conv => arg 4; whnf
  refine wpIn_rangeFunc_ownG rfl (by decide) (gf := 101) (lb := #[.pointer (some ⟨bI, 0, none⟩)]) rfl trivial Tryz.call101
    (houses_stops Fence.wide 8 m hm trivial trivial rfl (by decide) bI (fun A B => B.cell? ⟨bI, 0, none⟩ = A.cell? ⟨bI, 0, none⟩) (fun A B h => h) W l3 HX.out.2.2.cell)
    (fun h k => k.trans h) (fun W1 l o o' hl ho hc _ => ?kb) (Below.refl _ _) (fun _ => rfl)
    (fun pre W1 => Boxed W1 bn 81 (.int .i64 (reachAcc c a0 (vals pre) : Nat)) ∧ Kept bn bn bn W W1)
    (fun _ _ _ => False) ?hI (fun _ _ _ _ _ hs _ _ => hs) ⟨HX.out.2.1, Kept.refl _ _ _ _⟩
    (fun x => { tmps := #[u0, u1, u2, .pointer (some ⟨bd, 0, none⟩), u4, u5, u6, u7, .pointer (some ⟨bn, 0, none⟩), .int .i64 x.1, u10, u11, u12, u13, u14, u15, u16, .func (.func 101) #[] #[.pointer (some ⟨bI, 0, none⟩)], .int .i64 x.1, u19, u20, u21, u22, u23, u24, u25, u26, u27, u28, u29], defers := [] }) ?assign ?body ?done ?stop
  case kb =>
    show (W1.putObj l o').cell? _ = _
    have hne : bI ≠ l := by omega
    exact World.cell?_of_block (w := W1) (World.putObj_heap_other hne)
  case hI =>
    refine ownFrom_of_below (fun s W1 h => h.2.size) ?_
    rintro s W1 W2 hb ⟨g1, g2⟩
    exact ⟨(hb.block _ l2).trans g1, g2.onto hb (Nat.le_refl _)⟩
  case assign =>
    intro l x W1 K hK
    gi_wp2
    exact hK
  case body =>
    rintro l pre x W1 ⟨g1, g2⟩ hlt
    have hx6 := x.2.1
    have hx6i : ((x.1 : Nat) : Int) < 6 := by omega
    have e1 := g1.cell
    have e2 := g1.frozen
    have e3 := (g2.boxed HX.out.1 n1.symm n1.symm n1.symm).cell
    have hBW := HB.out.size
    have e4 : W1.cell? ⟨p, 4 + x.1, none⟩ = some (.int .i64 (nearC c x.1)) := (g2.cell (p := ⟨p, 4 + x.1, none⟩) (by simp; omega) (by simp; omega) (by simp; omega) (by simp; omega)).trans ((HB.out.cell (p := ⟨p, 4 + x.1, none⟩) hpl).trans (HN.out x.1 hx6))
    have hor := bits_orN (reachAcc_lt c (vals pre) a0 ha) (nearC_lt c x.1)
    have HG := Lib.hid (And.intro g1 g2)
    clear g1 g2
    refine wpIn_block ?_
    refine wpIn_region_still_tail 8 (by kernel_rfl) (by kernel_rfl) (by kernel_rfl) (fun ⟨a, w, h⟩ => h) ?_
    simp only [List.take_succ_cons, List.take_zero, List.drop_succ_cons, List.drop_zero]
    repeat still_step
    try refine wpStill_nil ?_
    change wpList _ _ _ _ _ W1.drew
    go_wp2_with fail
    have k2 : Kept bn bn bn W1 (W1.setCell ⟨bn, 0, none⟩ (.int .i64 (orN (reachAcc c a0 (vals pre)) (nearC c x.1)))).drew := ((Kept.refl _ _ _ W1).set ⟨bn, 0, none⟩ _ (.inl rfl)).drew
    refine ⟨k2.keeps l2 l2 l2, ?_, ?_, HG.out.2.trans k2⟩
    · exact k2.cell (p := ⟨bI, 0, none⟩) (Nat.lt_of_lt_of_le l3 HG.out.2.size) n2.symm n2.symm n2.symm
    · rw [vals_snoc, reachAcc_snoc]
      exact heap_setCell_same W1 _ _ _ _ _ HG.out.1
  case done =>
    rintro D ys W1 hD hys ⟨g1, g2⟩ hK
    exact HQ.out D W1 (by rw [← hys]; exact g1) g2 hD hK
  case stop =>
    rintro D e pre W1 _ _ h _
    exact h.elim
def ReachI (c : Col) (p h R : Nat) (w : World) (a : Act) (wr : World) : Prop :=
  ∃ (k : Nat) (u0 u1 u2 u4 u5 u6 u8 u9 u10 u11 u14 u15 u16 u17 u18 u19 u20 u21 u22 u23 u24 u25 u26 u27 u28 u29 : Value) (ds : List Deferred), a = { tmps := #[u0, u1, u2, .pointer (some ⟨w.heap.size, 0, none⟩), u4, u5, u6, .int .i64 (reachN c h k : Nat), u8, u9, u10, u11, .int .i64 (R : Nat), .int .i64 k, u14, u15, u16, u17, u18, u19, u20, u21, u22, u23, u24, u25, u26, u27, u28, u29], defers := ds } ∧ k ≤ R ∧ Boxed wr w.heap.size 76 (.pointer (some ⟨p, 0, none⟩)) ∧ Below w.heap.size w wr ∧ MarksLt (w.heap.size + 1) wr.heap.size ds wr

set_option maxRecDepth 100000 in
set_option maxHeartbeats 2000000 in
theorem reaches_any (c : Col) (p h R : Nat) (w : World) (hd : Desk w p c) (hh : h < 6) (hR : R ≤ 3) :
    Calls Tryz.prog 43 #[.pointer (some ⟨p, 0, none⟩), .int .i64 h, .int .i64 R] w fun e w' => e = .returned (.int .i64 (reachN c h R : Nat)) ∧ Below w.heap.size w w' := by
  have hwp := wrap_pw hh
  have HD := Lib.hid hd
  clear hd
  refine (callsIn_wide (n := 9)).1 ?_
  refine callsIn_of_wp_marks Tryz.func43 rfl trivial ?_ rfl
  simp only [Tryz.ntmps43, List.size_toArray, List.length_cons, List.length_nil, Nat.reduceAdd, Nat.reduceSub, Array.replicate_succ, Array.replicate_zero, List.push_toArray, List.append_toArray, List.nil_append, List.cons_append]
  gi_wp2_with fail
  have b0 := Boxed.new w 76 (.pointer (some ⟨p, 0, none⟩))
  have hb0 : Below w.heap.size w (w.alloc (.cells #[.pointer (some ⟨p, 0, none⟩)] 76)) := (Below.refl _ w).alloc (Nat.le_refl _) _
  refine wpIn_loop (ReachI c p h R w) (fun a _ => R - (intOf (a.tmps.getD 13 undef)).toNat) ?_ ?_
  · exact ⟨0, _, _, _, _, _, _, _, _, _, _, _, _, _, _, _, _, _, _, _, _, _, _, _, _, _, _, [], rfl, Nat.zero_le _, b0, hb0, MarksLt.nil _ _ _⟩
  · clear b0 hb0
    rintro a wr ⟨k, u0, u1, u2, u4, u5, u6, u8, u9, u10, u11, u14, u15, u16, u17, u18, u19, u20, u21, u22, u23, u24, u25, u26, u27, u28, u29, ds, rfl, hk, hbx, hB, hmk⟩
    have HMK := Lib.hid hmk; have HB := Lib.hid hB; have HBX := Lib.hid hbx
    clear hmk hB hbx
    by_cases hlt : k < R
    · have hlk := reachN_lt c h hh k
      gi_wp2_with (refine ⟨trivial, ?_⟩; gi_at_call 54; refine (houses_in Fence.wide _ _ trivial rfl _).mono ?_; rintro e w' ⟨rfl, rfl⟩)
      have x2 : Boxed ((wr.alloc (.cells #[.int .i64 (reachN c h k : Nat)] 81)).alloc (.cells #[.int .i64 (reachN c h k : Nat)] 81)) wr.heap.size 81 (.int .i64 (reachN c h k : Nat)) := (Boxed.new wr _ _).alloc _
      have x3 : Boxed ((wr.alloc (.cells #[.int .i64 (reachN c h k : Nat)] 81)).alloc (.cells #[.int .i64 (reachN c h k : Nat)] 81)) (wr.heap.size + 1) 81 (.int .i64 (reachN c h k : Nat)) := by
        have := Boxed.new (wr.alloc (.cells #[.int .i64 (reachN c h k : Nat)] 81)) 81 (.int .i64 (reachN c h k : Nat))
        rw [World.size_alloc] at this
        exact this
      have hb4 : Below wr.heap.size wr ((wr.alloc (.cells #[.int .i64 (reachN c h k : Nat)] 81)).alloc (.cells #[.int .i64 (reachN c h k : Nat)] 81)) := ((Below.refl _ wr).alloc (Nat.le_refl _) _).alloc (by simp) _
      have hs4 : ((wr.alloc (.cells #[.int .i64 (reachN c h k : Nat)] 81)).alloc (.cells #[.int .i64 (reachN c h k : Nat)] 81)).heap.size = wr.heap.size + 2 := by simp
      obtain ⟨W4, hW4⟩ : ∃ W4, ((wr.alloc (.cells #[.int .i64 (reachN c h k : Nat)] 81)).alloc (.cells #[.int .i64 (reachN c h k : Nat)] 81)) = W4 := ⟨_, rfl⟩
      rw [hW4] at x2 x3 hb4 hs4 ⊢
      clear hW4
      have hsz := HB.out.size
      have hlt0 := (Array.getElem?_eq_some_iff.1 HBX.out).1
      have x1 : Boxed W4 w.heap.size 76 (.pointer (some ⟨p, 0, none⟩)) := (hb4.block _ hlt0).trans HBX.out
      have hB4 := HB.out.trans (hb4.mono hsz)
      refine reach_round c p _ _ w.heap.size wr.heap.size (wr.heap.size + 1) hlk hlk w W4 HD.out hB4 hsz x1 x2 x3 (by omega) (by omega) _ _ _ _ _ _ _ _ _ _ _ _ _ _ _ _ _ _ _ _ _ _ _ _ _ _ _ ds _ ?_
      intro D W5 g1 g2 hD hK
      have hDlt := (Array.getElem?_eq_some_iff.1 hK).1
      have e1 := g1.cell
      have hb5 : Below wr.heap.size wr W5 := hb4.trans (g2.below (by omega) (Nat.le_refl _) (Nat.le_refl _) (Nat.le_refl _))
      have m2 : MarksLt (w.heap.size + 1) W5.heap.size ({ target := .collected D, args := #[] } :: ds) W5 := (HMK.out.below hb5 (Nat.le_refl _)).cons (by omega) (by omega) hDlt hK
      have HS := Lib.hid (And.intro ((hb5.block _ hlt0).trans HBX.out) (And.intro (HB.out.trans (hb5.mono hsz)) m2))
      clear g1 g2 hK hb5 m2 x1 x2 x3 hb4 hs4 hB4
      gi_wp2_with fail
      refine ⟨⟨k + 1, _, _, _, _, _, _, _, _, _, _, _, _, _, _, _, _, _, _, _, _, _, _, _, _, _, _, _, rfl, by omega, HS.out.1, HS.out.2.1, HS.out.2.2⟩, ?_⟩
      simp [intOf]; omega
    · obtain rfl : k = R := by omega
      gi_wp2_with fail
      refine ret_marks HMK.out (fun W' hW' => ?_)
      exact ⟨_, results_tmp rfl _ _ _, rfl, HB.out.trans (hW'.mono (by omega))⟩
end Go.Proofs.YtnhifinfjfpoiaaGreat

namespace Go.Proofs.YtnhifinfjfpoiaaGreat
open Go.RowKit
set_option linter.unusedVariables false

theorem everyIntsM_cl (v b0 : Value) (g bx : Nat) (q : Bool) (w : World) (hb : w.cell? ⟨bx, 0, none⟩ = some (.func (.func g) #[b0] #[])) (hcall : ∀ (args : Array Value) (w : World), (callFunc g args).run Tryz.prog w = .ok (.enter g args) w)
    (hf : Calls Tryz.prog g #[b0, v] w fun e w'' => e = .returned (.bool q) ∧ Below w.heap.size w w'') :
    Calls Tryz.prog 120 #[v, .pointer (some ⟨bx, 0, none⟩)] w fun e w' => e = .returned (.bool (!q)) ∧ Below w.heap.size w w' := by
  have HF := Lib.hid hf; clear hf
  go_enter Tryz.func120, Tryz.ntmps120
  go_wp2_with fail
  refine HF.out.mono ?_
  rintro e w1 ⟨rfl, hb1⟩
  go_wp2_with fail
  go_ret
  exact ⟨rfl, hb1⟩
theorem everyIntsM_any (v : Value) (n : Nat) (g : Nat) (b0 : Value) (p : Nat → Bool) (f : Nat → Value) (w : World) (h : SlAt w w.heap.size v n 1 f) (hcall : ∀ (args : Array Value) (w : World), (callFunc g args).run Tryz.prog w = .ok (.enter g args) w)
    (hf : ∀ i, i < n → ∀ w', Below w.heap.size w w' → w.heap.size ≤ w'.heap.size → Calls Tryz.prog g #[b0, f i] w' fun e w'' => e = .returned (.bool (p i)) ∧ Below w'.heap.size w' w'') :
    Calls Tryz.prog 81 #[v, .func (.func g) #[b0] #[]] w fun e w' => e = .returned (.bool (allB p n)) ∧ Below w.heap.size w w' := by
  have hbw : Below w.heap.size w (w.alloc (.cells #[.func (.func g) #[b0] #[]] 79)) := (Below.refl _ _).alloc (Nat.le_refl _) _
  have hcell : (w.alloc (.cells #[.func (.func g) #[b0] #[]] 79)).cell? ⟨w.heap.size, 0, none⟩ = some (.func (.func g) #[b0] #[]) := by simp [go_sem]
  have HC := Lib.hid (containsInts_any v n 120 #[.pointer (some ⟨w.heap.size, 0, none⟩)] (fun i => !p i) f (w.alloc (.cells #[.func (.func g) #[b0] #[]] 79)) ((h.below hbw (Nat.le_refl _)).mono (by simp)) (by
      refine ⟨Tryz.call120, fun i hi w' hw' hB => ?_⟩
      have hbox : w'.cell? ⟨w.heap.size, 0, none⟩ = some (.func (.func g) #[b0] #[]) := (hw'.cell (p := ⟨w.heap.size, 0, none⟩) (by simp)).trans hcell
      exact everyIntsM_cl _ b0 g w.heap.size (p i) w' hbox hcall (hf i hi w' (hbw.trans (hw'.mono (by simp))) (by simp at hB; omega))))
  have HB := Lib.hid hbw
  clear h hf hcell hbw hcall
  go_enter Tryz.func81, Tryz.ntmps81
  go_wp2_with fail
  refine HC.out.mono ?_
  rintro e w' ⟨rfl, hb⟩
  go_wp2_with fail
  go_ret
  exact ⟨rfl, HB.out.trans (hb.mono (by simp))⟩

/-- Are all numbers of a list houses? -/
def allHouse (c : Col) (l : List Int) : Bool := allB (fun i => inB (nth l i) 0 (c.rooms.length - 1)) l.length
theorem everyHouse_any (c : Col) (p : Nat) (l : List Int) (v : Value) (w : World) (hd : Desk w p c) (hv : IsInts w w.heap.size v l) {q : Bool} (hq : allHouse c l = q) :
    Calls Tryz.prog 81 #[v, .func (.func 41) #[.pointer (some ⟨p, 0, none⟩)] #[]] w fun e w' => e = .returned (.bool q) ∧ Below w.heap.size w w' := by
  subst hq
  exact everyIntsM_any v l.length 41 _ (fun i => inB (nth l i) 0 (c.rooms.length - 1)) _ w hv.1 Tryz.call41 (fun i hi w' hw' _ =>
    (dhouse_any c p _ w' (hd.below hw')).mono (by rintro e w'' ⟨rfl, rfl⟩; exact ⟨rfl, Below.refl _ _⟩))

def reachErr (c : Col) (h r : Int) : Int := if checkC c = 0 then (if inB h 0 (c.rooms.length - 1) = true then (if inB r 0 3 = true then 0 else 4) else 2) else checkC c
theorem reach_in {c : Col} {h r : Int} (hk : reachErr c h r = 0) : checkC c = 0 ∧ inB h 0 (c.rooms.length - 1) = true ∧ inB r 0 3 = true := by
  unfold reachErr at hk
  by_cases q : checkC c = 0
  · rw [if_pos q] at hk
    cases q2 : inB h 0 (c.rooms.length - 1) <;> cases q3 : inB r 0 3 <;> simp [q2, q3] at hk
    exact ⟨q, rfl, rfl⟩
  · rw [if_neg q] at hk; exact absurd hk q

theorem Reaches_good (c : Col) (r t u n : Value) (h m : Int) (w : World) (hc : ColAt w w.heap.size r t u n c) (hk : reachErr c h m = 0) :
    Calls Tryz.prog 9 #[.agg #[r, t, u, n], .int .i64 h, .int .i64 m] w fun e w' => ∃ v, e = .returned (.tuple #[v, .int .i64 0]) ∧ IsInts w' w'.heap.size v (natsI (members (reachN c h.toNat m.toNat))) ∧ Below w.heap.size w w' := by
  have hBW := (Below.refl w.heap.size w).alloc (Nat.le_refl _) (.cells #[r, t, u, n] 26)
  obtain ⟨k0, k1, k2⟩ := reach_in hk
  have HCK := Lib.hid (opened_ok c r t u n _ ((hc.below hBW (Nat.le_refl _)).mono (by simp)) k0)
  obtain ⟨hr, htr, hu, hn⟩ := hc
  obtain ⟨ar, cr, rfl, _⟩ := hr.open
  obtain ⟨at_, ct, rfl, _⟩ := htr.open
  obtain ⟨au, cu, rfl, _⟩ := hu.open
  obtain ⟨an, cn, rfl, _⟩ := hn.open
  have HB := Lib.hid hBW
  have o2 := (okCol_of k0).houses.2
  have a := inB_true k1; have b := inB_true k2
  obtain ⟨H, rfl⟩ : ∃ H : Nat, h = H := ⟨h.toNat, by omega⟩
  obtain ⟨M, rfl⟩ : ∃ M : Nat, m = M := ⟨m.toNat, by omega⟩
  have hH : H < 6 := by omega
  have hM : M ≤ 3 := by omega
  clear hr htr hu hn hBW hk k0 a b
  go_enter Tryz.func9, Tryz.ntmps9
  go_wp2_with fail
  refine HCK.out.mono ?_
  rintro e w1 ⟨p, rfl, hb1, hd⟩
  have HD := Lib.hid (And.intro hb1 hd)
  clear hb1 hd
  go_wp2_with (first | (go_at_call 41; refine (dhouse_any c p _ _ HD.out.2).mono ?_; rw [k1]; rintro e w' ⟨rfl, rfl⟩) | (go_at_call 42; refine (in_any _ _ _ _).mono ?_; rw [k2]; rintro e w' ⟨rfl, rfl⟩) | (go_at_call 43; refine (reaches_any c p H M _ HD.out.2 hH hM).mono ?_; rintro e w2 ⟨rfl, hb2⟩; have H2 := Lib.hid hb2; clear hb2) | (go_at_call 44; refine (list_any _ (reachN_lt c H hH M) _).mono ?_; rintro e w3 ⟨v, rfl, hv, hb3⟩; have H3 := Lib.hid (And.intro hv hb3); clear hv hb3))
  go_ret2
  have h1 := HB.out.trans (HD.out.1.mono (by simp))
  have h2 := h1.trans (H2.out.mono h1.size)
  exact ⟨v, rfl, H3.out.1, h2.trans (H3.out.2.mono h2.size)⟩

theorem Reaches_bad (c : Col) (r t u n : Value) (h m : Int) (w : World) (hc : ColAt w w.heap.size r t u n c) (hk : ¬ reachErr c h m = 0) :
    Calls Tryz.prog 9 #[.agg #[r, t, u, n], .int .i64 h, .int .i64 m] w fun e w' => e = .returned (.tuple #[.slice none 0 0, .int .i64 (reachErr c h m)]) ∧ Below w.heap.size w w' := by
  have hBW := (Below.refl w.heap.size w).alloc (Nat.le_refl _) (.cells #[r, t, u, n] 26)
  have HC := Lib.hid ((hc.below hBW (Nat.le_refl _)).mono (B' := (w.alloc (.cells #[r, t, u, n] 26)).heap.size) (by simp))
  obtain ⟨hr, htr, hu, hn⟩ := hc
  obtain ⟨ar, cr, rfl, _⟩ := hr.open
  obtain ⟨at_, ct, rfl, _⟩ := htr.open
  obtain ⟨au, cu, rfl, _⟩ := hu.open
  obtain ⟨an, cn, rfl, _⟩ := hn.open
  have HB := Lib.hid hBW
  clear hr htr hu hn hBW
  by_cases q : checkC c = 0
  · have HCK := Lib.hid (opened_ok c _ _ _ _ _ HC.out q)
    have hcase : (inB h 0 (c.rooms.length - 1) = false ∧ reachErr c h m = 2) ∨ (inB h 0 (c.rooms.length - 1) = true ∧ inB m 0 3 = false ∧ reachErr c h m = 4) := by
      unfold reachErr at hk ⊢
      rw [if_pos q] at hk ⊢
      cases q2 : inB h 0 (c.rooms.length - 1) <;> cases q3 : inB m 0 3 <;> simp [q2, q3] at hk ⊢
    clear hk q HC
    rcases hcase with ⟨k1, e⟩ | ⟨k1, k2, e⟩
    all_goals
      rw [e]
      clear e
      go_enter Tryz.func9, Tryz.ntmps9
      go_wp2_with fail
      refine HCK.out.mono ?_
      rintro e w1 ⟨p, rfl, hb1, hd⟩
      have HD := Lib.hid (And.intro hb1 hd)
      clear hb1 hd
      go_wp2_with (first | (go_at_call 41; refine (dhouse_any c p _ _ HD.out.2).mono ?_; rw [k1]; rintro e w' ⟨rfl, rfl⟩) | (go_at_call 42; refine (in_any _ _ _ _).mono ?_; rw [k2]; rintro e w' ⟨rfl, rfl⟩))
      go_ret2
      exact ⟨rfl, HB.out.trans (HD.out.1.mono (by simp))⟩
  · have HCK := Lib.hid (opened_bad c _ _ _ _ _ HC.out q)
    have e : reachErr c h m = checkC c := by unfold reachErr; rw [if_neg q]
    rw [e]
    have hk1 : (checkC c == 0) = false := by simpa using q
    have hk2 : (checkC c != 0) = true := by simp [bne, hk1]
    clear hk q e HC
    go_enter Tryz.func9, Tryz.ntmps9
    go_wp2_with fail
    refine HCK.out.mono ?_
    rintro e w1 ⟨rfl, hb1⟩
    go_wp2_with fail
    go_ret2
    exact ⟨rfl, HB.out.trans (hb1.mono (by simp))⟩
end Go.Proofs.YtnhifinfjfpoiaaGreat

namespace Go.Proofs.YtnhifinfjfpoiaaGreat
open Go.RowKit
set_option linter.unusedVariables false

theorem quiet_full {c : Col} {h m : Nat} {v : Bool} (hv : fullB c h m = v) (p : Nat) (w : World) (n : Nat) (x : Int) (hx : x = h) (hd : Desk w p c) (hh : h < c.rooms.length) (hm : m < c.nights.length) :
    Calls Tryz.prog 88 #[.pointer (some ⟨p, 0, none⟩), .int .i64 x, .int .i64 m] (w.drewN n) fun e w'' => e = .returned (.bool v) ∧ ∃ k, w'' = w.drewN k := by
  subst hx; subst hv
  exact (dfull_any c p h m (w.drewN n) (hd.below (below_drewN w n)) hh hm).mono (by rintro e w' ⟨rfl, k, rfl⟩; exact ⟨rfl, n + k, by simp [World.drewN]; try omega⟩)
theorem has_as {m h : Nat} {v : Bool} (hv : m.testBit h = v) (hm : m < 64) (hh : h < 6) (x : Int) (hx : x = h) (w : World) : Calls Tryz.prog 96 #[.int .i64 m, .int .i64 x] w fun e w' => e = .returned (.bool v) ∧ w = w' := by
  subst hx
  exact (callsIn_wide (n := 9)).1 (hasIn_any Fence.wide 9 m h trivial rfl w hm hh hv)

def stepB (c : Col) (way : List Int) (n : Nat) : Bool := fullB c (nth way n).toNat n && (nearC c (nth way n).toNat).testBit (nth way (n + 1)).toNat
def goneB (c : Col) (way : List Int) : Bool := allB (stepB c way) (way.length - 1)
def goneErr (c : Col) (way : List Int) : Int :=
  if checkC c = 0 then (if inB way.length 1 c.nights.length = true then (if allHouse c way = true then 0 else 2) else 3) else checkC c
def goneV (c : Col) (way : List Int) : Bool := if goneErr c way = 0 then goneB c way else false
theorem gone_in {c : Col} {way : List Int} (hk : goneErr c way = 0) : checkC c = 0 ∧ inB way.length 1 c.nights.length = true ∧ allHouse c way = true := by
  unfold goneErr at hk
  by_cases q : checkC c = 0
  · rw [if_pos q] at hk
    cases q2 : inB way.length 1 c.nights.length <;> cases q3 : allHouse c way <;> simp [q2, q3] at hk
    exact ⟨q, rfl, rfl⟩
  · rw [if_neg q] at hk; exact absurd hk q
theorem goneB_no {c : Col} {way : List Int} {n : Nat} (hn : n < way.length - 1) (h : stepB c way n = false) : goneB c way = false := by
  unfold goneB
  cases e : allB (stepB c way) (way.length - 1)
  · rfl
  · have := allB_iff.1 e n hn; rw [h] at this; cases this
theorem goneB_yes {c : Col} {way : List Int} (h : ∀ n, n < way.length - 1 → stepB c way n = true) : goneB c way = true := by
  unfold goneB; exact allB_iff.2 h

set_option maxHeartbeats 1000000 in
theorem Gone_good (c : Col) (r t u n wv : Value) (way : List Int) (w : World) (hc : ColAt w w.heap.size r t u n c) (hw : IsInts w w.heap.size wv way) (hk : goneErr c way = 0) :
    Calls Tryz.prog 35 #[.agg #[r, t, u, n], wv] w fun e w' => e = .returned (.tuple #[.bool (goneB c way), .int .i64 0]) ∧ Below w.heap.size w w' := by
  have hBW := (Below.refl w.heap.size w).alloc (Nat.le_refl _) (.cells #[r, t, u, n] 26)
  obtain ⟨k0, k1, k2⟩ := gone_in hk
  have HCK := Lib.hid (opened_ok c r t u n _ ((hc.below hBW (Nat.le_refl _)).mono (by simp)) k0)
  have c3 : (w.alloc (.cells #[r, t, u, n] 26)).cell? ⟨w.heap.size, 3, none⟩ = some n := by simp [go_sem]
  obtain ⟨hr, htr, hu, hn⟩ := hc
  obtain ⟨ar, cr, rfl, _⟩ := hr.open
  obtain ⟨at_, ct, rfl, _⟩ := htr.open
  obtain ⟨au, cu, rfl, _⟩ := hu.open
  obtain ⟨an, cn, rfl, _⟩ := hn.open
  have HB := Lib.hid hBW
  have o2 := (okCol_of k0).houses.2
  have o3 := (okCol_of k0).nights
  have a := inB_true k1
  have hall : ∀ i, i < way.length → 0 ≤ nth way i ∧ nth way i ≤ (c.rooms.length : Int) - 1 := fun i hi => inB_true (allB_iff.1 k2 i hi)
  have HW := Lib.hid hw
  obtain ⟨aw, cw, rfl, w1', w2', w3'⟩ := hw.open
  have HALL := Lib.hid hall; have HW3 := Lib.hid w3'
  clear hr htr hu hn hBW hk k0 hall hw w3'
  go_enter Tryz.func35, Tryz.ntmps35
  go_wp2_with fail
  refine HCK.out.mono ?_
  rintro e w1 ⟨p, rfl, hb1, hd⟩
  have c3' := (hb1.cell (p := ⟨w.heap.size, 3, none⟩) (by simp)).trans c3
  have HD := Lib.hid (And.intro hb1 hd)
  have HV := Lib.hid (everyHouse_any c p way (.slice aw way.length cw) w1 hd ((HW.out.below (HB.out.trans (hb1.mono (by simp))) (Nat.le_refl _)).mono (HB.out.trans (hb1.mono (by simp))).size) k2)
  clear hb1 hd c3
  go_wp2_with (first | (go_at_call 42; refine (in_any _ _ _ _).mono ?_; rw [k1]; rintro e w' ⟨rfl, rfl⟩) | (go_at_call 81; refine HV.out.mono ?_; rintro e w2 ⟨rfl, hb2⟩; have H2 := Lib.hid hb2; clear hb2))
  go_loopw [35] (fun i wr => ∃ k : Nat, k ≤ way.length - 1 ∧ i = .int .i64 k ∧ Hid (Below w2.heap.size w2 wr ∧ ∀ j, j < k → stepB c way j = true)) (fun i _ => way.length - 1 - (intOf i).toNat)
  case atStart => exact ⟨0, Nat.zero_le _, rfl, Below.refl _ _, fun j hj => absurd hj (Nat.not_lt_zero _)⟩
  case round =>
    obtain ⟨k, hk, rfl, hrel⟩ := hrel
    by_cases hlt : k < way.length - 1
    · have hki : (k : Int) < (way.length : Int) - 1 := by omega
      obtain ⟨bw, offw, rfl, hbw, hcw⟩ := HW3.out k (by omega)
      obtain ⟨bw2, offw2, e2, _, hcw2⟩ := HW3.out (k + 1) (by omega)
      cases e2
      have ha1 := HALL.out k (by omega)
      have ha2 := HALL.out (k + 1) (by omega)
      have hrel2 := hrel.out.1
      have h1 := HB.out.trans (HD.out.1.mono (by simp))
      have h2 := h1.trans (H2.out.mono h1.size)
      have h3 := h2.trans (hrel2.mono h2.size)
      have hd := (HD.out.2.below H2.out).below hrel2
      have d1 := (h3.cell (p := ⟨bw, offw + k, none⟩) hbw).trans hcw
      have d2 := (h3.cell (p := ⟨bw, offw + (k + 1), none⟩) hbw).trans hcw2
      have hsx : stepB c way k = (fullB c (nth way k).toNat k && (nearC c (nth way k).toNat).testBit (nth way (k + 1)).toNat) := rfl
      obtain ⟨x, hx⟩ : ∃ x : Nat, nth way k = x := ⟨(nth way k).toNat, by omega⟩
      obtain ⟨y, hy⟩ : ∃ y : Nat, nth way (k + 1) = y := ⟨(nth way (k + 1)).toNat, by omega⟩
      rw [hx] at d1 ha1 hsx
      rw [hy] at d2 ha2 hsx
      simp only [Int.toNat_natCast] at hsx
      have hxr : x < c.rooms.length := by omega
      have hx6 : (x : Int) < 6 := by omega
      have hy6 : y < 6 := by omega
      have hkn : k < c.nights.length := by omega
      have hk1 : (k : Int) + 1 < way.length := by omega
      obtain ⟨_, _, _, _, _, _, _, _, _, hnear, _⟩ := hd.open
      have d3 := hnear x (by omega)
      have hnl := nearC_lt c x
      have HDR := Lib.hid hd
      have HH := Lib.hid (And.intro h3 hsx)
      clear hd hnear hcw hcw2 h1 h2 h3 ha1 ha2 hsx hrel2
      cases hf : fullB c x k
      · go_wp2_with fail
        go_quiet ((go_at_call 88; exact quiet_full hf p wr _ x rfl HDR.out hxr hkn))
        go_wp2_with fail
        go_ret2
        exact ⟨by rw [goneB_no hlt (by rw [HH.out.2, hf]; rfl)]; rfl, Below.drewN HH.out.1 _⟩
      · cases hh : (nearC c x).testBit y
        · go_wp2_with fail
          go_quiet (first | (go_at_call 88; exact quiet_full hf p wr _ x rfl HDR.out hxr hkn) | (go_at_call 96; exact quiet_same (has_as hh hnl hy6 y rfl _)))
          go_wp2_with fail
          go_ret2
          exact ⟨by rw [goneB_no hlt (by rw [HH.out.2, hf, hh]; rfl)]; rfl, Below.drewN HH.out.1 _⟩
        · go_wp2_with fail
          go_quiet (first | (go_at_call 88; exact quiet_full hf p wr _ x rfl HDR.out hxr hkn) | (go_at_call 96; exact quiet_same (has_as hh hnl hy6 y rfl _)))
          go_wp2_with fail
          go_roundw
          case rel =>
            refine ⟨k + 1, by omega, by go_num, Below.drewN hrel.out.1 _, fun j hj => ?_⟩
            by_cases e : j = k
            · rw [e, HH.out.2, hf, hh]; rfl
            · exact hrel.out.2 j (by omega)
          case measure => simp [intOf]; omega
    · obtain rfl : k = way.length - 1 := by omega
      have hki : ¬ (((way.length - 1 : Nat) : Int) < (way.length : Int) - 1) := by omega
      go_wp2_with fail
      go_ret2
      have h1 := HB.out.trans (HD.out.1.mono (by simp))
      have h2 := h1.trans (H2.out.mono h1.size)
      exact ⟨by rw [goneB_yes hrel.out.2]; rfl, h2.trans (hrel.out.1.mono h2.size)⟩

theorem Gone_bad (c : Col) (r t u n wv : Value) (way : List Int) (w : World) (hc : ColAt w w.heap.size r t u n c) (hw : IsInts w w.heap.size wv way) (hk : ¬ goneErr c way = 0) :
    Calls Tryz.prog 35 #[.agg #[r, t, u, n], wv] w fun e w' => e = .returned (.tuple #[.bool false, .int .i64 (goneErr c way)]) ∧ Below w.heap.size w w' := by
  have hBW := (Below.refl w.heap.size w).alloc (Nat.le_refl _) (.cells #[r, t, u, n] 26)
  have HC := Lib.hid ((hc.below hBW (Nat.le_refl _)).mono (B' := (w.alloc (.cells #[r, t, u, n] 26)).heap.size) (by simp))
  have c3 : (w.alloc (.cells #[r, t, u, n] 26)).cell? ⟨w.heap.size, 3, none⟩ = some n := by simp [go_sem]
  obtain ⟨hr, htr, hu, hn⟩ := hc
  obtain ⟨ar, cr, rfl, _⟩ := hr.open
  obtain ⟨at_, ct, rfl, _⟩ := htr.open
  obtain ⟨au, cu, rfl, _⟩ := hu.open
  obtain ⟨an, cn, rfl, _⟩ := hn.open
  have HB := Lib.hid hBW
  have HW := Lib.hid hw
  obtain ⟨aw, cw, rfl, w1', w2', _⟩ := hw.open
  clear hr htr hu hn hBW hw
  by_cases q : checkC c = 0
  · have HCK := Lib.hid (opened_ok c _ _ _ _ _ HC.out q)
    have hcase : (inB way.length 1 c.nights.length = false ∧ goneErr c way = 3) ∨ (inB way.length 1 c.nights.length = true ∧ allHouse c way = false ∧ goneErr c way = 2) := by
      unfold goneErr at hk ⊢
      rw [if_pos q] at hk ⊢
      cases q2 : inB way.length 1 c.nights.length <;> cases q3 : allHouse c way <;> simp [q2, q3] at hk ⊢
    clear hk q HC
    rcases hcase with ⟨k1, e⟩ | ⟨k1, k2, e⟩
    · rw [e]
      clear e
      go_enter Tryz.func35, Tryz.ntmps35
      go_wp2_with fail
      refine HCK.out.mono ?_
      rintro e w1 ⟨p, rfl, hb1, hd⟩
      have c3' := (hb1.cell (p := ⟨w.heap.size, 3, none⟩) (by simp)).trans c3
      have HD := Lib.hid (And.intro hb1 hd)
      clear hb1 hd c3
      go_wp2_with (go_at_call 42; refine (in_any _ _ _ _).mono ?_; rw [k1]; rintro e w' ⟨rfl, rfl⟩)
      go_ret2
      exact ⟨rfl, HB.out.trans (HD.out.1.mono (by simp))⟩
    · rw [e]
      clear e
      go_enter Tryz.func35, Tryz.ntmps35
      go_wp2_with fail
      refine HCK.out.mono ?_
      rintro e w1 ⟨p, rfl, hb1, hd⟩
      have c3' := (hb1.cell (p := ⟨w.heap.size, 3, none⟩) (by simp)).trans c3
      have HV := Lib.hid (everyHouse_any c p way (.slice aw way.length cw) w1 hd ((HW.out.below (HB.out.trans (hb1.mono (by simp))) (Nat.le_refl _)).mono (HB.out.trans (hb1.mono (by simp))).size) k2)
      have HD := Lib.hid (And.intro hb1 hd)
      clear hb1 hd c3
      go_wp2_with (first | (go_at_call 42; refine (in_any _ _ _ _).mono ?_; rw [k1]; rintro e w' ⟨rfl, rfl⟩) | (go_at_call 81; refine HV.out.mono ?_; rintro e w2 ⟨rfl, hb2⟩; have H2 := Lib.hid hb2; clear hb2))
      go_ret2
      have h1 := HB.out.trans (HD.out.1.mono (by simp))
      exact ⟨rfl, h1.trans (H2.out.mono h1.size)⟩
  · have HCK := Lib.hid (opened_bad c _ _ _ _ _ HC.out q)
    have e : goneErr c way = checkC c := by unfold goneErr; rw [if_neg q]
    rw [e]
    have hk1 : (checkC c == 0) = false := by simpa using q
    have hk2 : (checkC c != 0) = true := by simp [bne, hk1]
    clear hk q e HC c3
    go_enter Tryz.func35, Tryz.ntmps35
    go_wp2_with fail
    refine HCK.out.mono ?_
    rintro e w1 ⟨rfl, hb1⟩
    go_wp2_with fail
    go_ret2
    exact ⟨rfl, HB.out.trans (hb1.mono (by simp))⟩
end Go.Proofs.YtnhifinfjfpoiaaGreat

namespace Go.Proofs.YtnhifinfjfpoiaaGreat
open Go.RowKit
set_option linter.unusedVariables false

def shortErr (c : Col) (l : List Int) : Int := if checkC c = 0 then (if allHouse c l = true then 0 else 2) else checkC c
/-- A list of houses is told in increasing order. -/
def incB (l : List Int) : Bool := allB (fun i => decide (nth l i < nth l (i + 1))) (l.length - 1)
def setTo (l : List Int) : Nat → Nat
  | 0 => 0
  | k + 1 => orN (setTo l k) (pw (nth l k).toNat)
def roomTo (c : Col) (l : List Int) : Nat → Int
  | 0 => 0
  | k + 1 => roomTo c l k + nth c.rooms (nth l k).toNat
def subsetN (a b : Nat) : Bool := a &&& (63 - (b &&& 63)) == 0
def ratsTo (nl : List (Int × Int)) (m : Nat) : Nat → Int
  | 0 => 0
  | k + 1 => if subsetN (frm nl k) m = true then ratsTo nl m k + (nthP nl k).1 else ratsTo nl m k
/-- How many rats more than room, and the error: over houses that are right. -/
def shortN (c : Col) (l : List Int) : Int := ratsTo (needsC c) (setTo l l.length) (needsC c).length - roomTo c l l.length
def shortV (c : Col) (l : List Int) : Int × Int :=
  if shortErr c l = 0 then (if incB l = true then (if shortN c l ≤ 0 then (0, 8) else (shortN c l, 0)) else (0, 6)) else (0, shortErr c l)
theorem bits_andNot_fin : ∀ a b : Fin 64, bits BinOp.andNot IntKind.i64 (a.val : Int) (b.val : Int) = ((a.val &&& (63 - (b.val &&& 63)) : Nat) : Int) := by decide +kernel
theorem bits_andNot {a b : Nat} (ha : a < 64) (hb : b < 64) : bits BinOp.andNot IntKind.i64 (a : Int) (b : Int) = ((a &&& (63 - (b &&& 63)) : Nat) : Int) := bits_andNot_fin ⟨a, ha⟩ ⟨b, hb⟩
theorem setTo_lt {l : List Int} (h : ∀ i, i < l.length → (nth l i).toNat < 6) : ∀ k, k ≤ l.length → setTo l k < 64
  | 0, _ => Nat.zero_lt_succ 63
  | k + 1, hk => orN_lt (setTo_lt h k (by omega)) (pw_lt (h k (by omega)))
theorem roomTo_bound {c : Col} (ok : OkCol c) {l : List Int} (h : ∀ i, i < l.length → 0 ≤ nth l i ∧ nth l i ≤ (c.rooms.length : Int) - 1) : ∀ k, k ≤ l.length → 0 ≤ roomTo c l k ∧ roomTo c l k ≤ 60 * k
  | 0, _ => ⟨by simp [roomTo], by simp [roomTo]⟩
  | k + 1, hk => by
    have h1 := roomTo_bound ok h k (by omega)
    have h2 := h k (by omega)
    have h3 := ok.room (nth l k).toNat (by omega)
    have e : roomTo c l (k + 1) = roomTo c l k + nth c.rooms (nth l k).toNat := rfl
    constructor <;> omega
theorem ratsTo_bound {nl : List (Int × Int)} (h : ∀ i, i < nl.length → 0 ≤ (nthP nl i).1 ∧ (nthP nl i).1 ≤ 9) (m : Nat) : ∀ k, k ≤ nl.length → 0 ≤ ratsTo nl m k ∧ ratsTo nl m k ≤ 9 * k
  | 0, _ => ⟨by simp [ratsTo], by simp [ratsTo]⟩
  | k + 1, hk => by
    have h1 := ratsTo_bound h m k (by omega)
    have h2 := h k (by omega)
    unfold ratsTo
    split <;> constructor <;> omega
theorem needs_rats {c : Col} (ok : OkCol c) : ∀ i, i < (needsC c).length → 0 ≤ (nthP (needsC c) i).1 ∧ (nthP (needsC c) i).1 ≤ 9 := by
  intro i hi
  obtain ⟨n, h, hn, hh, e⟩ := needsC_mem (nthP_mem hi)
  rw [e]
  have h1 := ok.night n h hn hh
  have h2 := ok.trap h hh
  constructor <;> simp <;> omega
theorem needs_frm {c : Col} (o2 : c.rooms.length ≤ 6) : FrmOk (needsC c) := frmOk_of fun q hq => by
  obtain ⟨n, h, hn, hh, rfl⟩ := needsC_mem hq
  exact ⟨_, rfl, org_lt c o2 n h⟩
theorem incB_no {l : List Int} {i : Nat} (hi : i < l.length - 1) (h : ¬ nth l i < nth l (i + 1)) : incB l = false := by
  unfold incB
  cases e : allB (fun i => decide (nth l i < nth l (i + 1))) (l.length - 1)
  · rfl
  · have := allB_iff.1 e i hi; simp at this; omega
theorem needsC_len {c : Col} (ok : OkCol c) : (needsC c).length ≤ 36 := by
  unfold needsC; rw [needsUp_len]
  have h1 : c.nights.length * c.rooms.length ≤ 6 * c.rooms.length := Nat.mul_le_mul_right _ ok.nights
  have := ok.houses.2
  omega
theorem needsC_i64 {c : Col} (ok : OkCol c) : ∀ p ∈ needsC c, I64 p.1 ∧ I64 p.2 := by
  intro q hq
  obtain ⟨n, h, hn, hh, rfl⟩ := needsC_mem hq
  have h1 := org_lt c ok.houses.2 n h
  have h2 := ok.night n h hn hh
  have h3 := ok.trap h hh
  exact ⟨⟨by simp; omega, by simp; omega⟩, by constructor <;> simp <;> omega⟩

set_option maxRecDepth 100000 in
set_option maxHeartbeats 2000000 in
theorem Short_good (c : Col) (r t u n lv : Value) (l : List Int) (w : World) (hc : ColAt w w.heap.size r t u n c) (hw : IsInts w w.heap.size lv l) (hk : shortErr c l = 0) :
    Calls Tryz.prog 34 #[.agg #[r, t, u, n], lv] w fun e w' => e = .returned (.tuple #[.int .i64 (shortV c l).1, .int .i64 (shortV c l).2]) ∧ Below w.heap.size w w' := by
  have hBW := (Below.refl w.heap.size w).alloc (Nat.le_refl _) (.cells #[r, t, u, n] 26)
  have hk2 : checkC c = 0 ∧ allHouse c l = true := by
    unfold shortErr at hk
    by_cases q : checkC c = 0
    · rw [if_pos q] at hk
      cases q3 : allHouse c l <;> simp [q3] at hk
      exact ⟨q, rfl⟩
    · rw [if_neg q] at hk; exact absurd hk q
  obtain ⟨k0, k2⟩ := hk2
  have ok := okCol_of k0
  have HCK := Lib.hid (opened_ok c r t u n _ ((hc.below hBW (Nat.le_refl _)).mono (by simp)) k0)
  have c0 : (w.alloc (.cells #[r, t, u, n] 26)).cell? ⟨w.heap.size, 0, none⟩ = some r := by simp [go_sem]
  have hV : shortV c l = if incB l = true then (if shortN c l ≤ 0 then (0, 8) else (shortN c l, 0)) else (0, 6) := by unfold shortV; rw [if_pos hk]
  obtain ⟨hr, htr, hu, hn⟩ := hc
  obtain ⟨ar, cr, rfl, _, _, hr3⟩ := hr.open
  obtain ⟨at_, ct, rfl, _⟩ := htr.open
  obtain ⟨au, cu, rfl, _⟩ := hu.open
  obtain ⟨an, cn, rfl, _⟩ := hn.open
  have HB := Lib.hid hBW
  have o2 := ok.houses.2
  have hall : ∀ i, i < l.length → 0 ≤ nth l i ∧ nth l i ≤ (c.rooms.length : Int) - 1 := fun i hi => inB_true (allB_iff.1 k2 i hi)
  have HW := Lib.hid hw
  obtain ⟨aw, cw, rfl, w1', w2', w3'⟩ := hw.open
  have HALL := Lib.hid hall; have HW3 := Lib.hid w3'; have HR3 := Lib.hid hr3; have HV := Lib.hid hV; have HOK := Lib.hid ok
  clear htr hu hn hr hr3 hBW hk k0 hall hw w3' hV ok
  go_enter Tryz.func34, Tryz.ntmps34
  go_wp2_with fail
  refine HCK.out.mono ?_
  rintro e w1 ⟨p, rfl, hb1, hd⟩
  have c0' := (hb1.cell (p := ⟨w.heap.size, 0, none⟩) (by simp)).trans c0
  have HE := Lib.hid (everyHouse_any c p l (.slice aw l.length cw) w1 hd ((HW.out.below (HB.out.trans (hb1.mono (by simp))) (Nat.le_refl _)).mono (HB.out.trans (hb1.mono (by simp))).size) k2)
  have hlt0 : w.heap.size < w1.heap.size := Nat.lt_of_lt_of_le (by simp) hb1.size
  have HD := Lib.hid (And.intro (HB.out.trans (hb1.mono (by simp))) (And.intro hd c0'))
  clear hb1 hd c0 c0'
  go_wp2_with (go_at_call 81; refine HE.out.mono ?_; rintro e w2 ⟨rfl, hb2⟩; have H2 := Lib.hid hb2; clear hb2)
  go_loopw [8, 9, 32] (fun a b i wr => ∃ k : Nat, k ≤ l.length ∧ i = .int .i64 k ∧ a = .int .i64 (setTo l k : Nat) ∧ b = .int .i64 (roomTo c l k) ∧ Hid (Below w1.heap.size w1 wr ∧ ∀ j, j + 1 < k → nth l j < nth l (j + 1))) (fun _ _ i _ => l.length - (intOf i).toNat)
  case atStart => exact ⟨0, Nat.zero_le _, rfl, rfl, rfl, H2.out, fun j hj => by omega⟩
  case round =>
    obtain ⟨k, hk, rfl, rfl, rfl, hrel⟩ := hrel
    by_cases hlt : k < l.length
    · have hki : (k : Int) < (l.length : Int) := by omega
      obtain ⟨bw, offw, rfl, hbw, hcw⟩ := HW3.out k (by omega)
      have hBr := HD.out.1.trans (hrel.out.1.mono HD.out.1.size)
      have ha1 := HALL.out k hlt
      have d1 := (hBr.cell (p := ⟨bw, offw + k, none⟩) hbw).trans hcw
      have d0 : wr.cell? ⟨w.heap.size, 0, none⟩ = some (.slice ar c.rooms.length cr) := (hrel.out.1.cell (p := ⟨w.heap.size, 0, none⟩) hlt0).trans HD.out.2.2
      have hst := setTo_lt (fun i hi => by have := HALL.out i hi; omega) k hk
      have hrb := roomTo_bound HOK.out HALL.out k hk
      have hsucc : setTo l (k + 1) = orN (setTo l k) (pw (nth l k).toNat) := rfl
      have hrsucc : roomTo c l (k + 1) = roomTo c l k + nth c.rooms (nth l k).toNat := rfl
      obtain ⟨x, hx⟩ : ∃ x : Nat, nth l k = x := ⟨(nth l k).toNat, by omega⟩
      have HXK := Lib.hid hx
      rw [hx] at d1 ha1 hsucc hrsucc
      simp only [Int.toNat_natCast] at hsucc hrsucc
      have hx6 : x < 6 := by omega
      have hwp := wrap_pw hx6
      have hor := bits_orN hst (pw_lt hx6)
      have hxr : (x : Int) < c.rooms.length := by omega
      obtain ⟨br, offr, rfl, hbr, hcr⟩ := HR3.out x (by omega)
      have d2 := (hBr.cell (p := ⟨br, offr + x, none⟩) hbr).trans hcr
      have hroom := HOK.out.room x (by omega)
      have HXR := Lib.hid hroom
      have HS := Lib.hid (And.intro hsucc (And.intro hrsucc (And.intro hBr hrb)))
      have hsz : w1.heap.size ≤ wr.heap.size := hrel.out.1.size
      have HSZ := Lib.hid hsz
      have hsum : ∀ W : World, W.cell? ⟨wr.heap.size, 0, none⟩ = some (.int .i64 (roomTo c l k)) → W.cell? ⟨wr.heap.size, 1, none⟩ = some (.int .i64 (nth c.rooms x)) → Calls Tryz.prog 97 #[.slice (some ⟨wr.heap.size, 0, none⟩) 2 2] W fun e w' => e = .returned (.int .i64 (roomTo c l k + nth c.rooms x)) ∧ W = w' := fun W m1 m2 =>
        sum_two wr.heap.size 2 _ _ (by constructor <;> omega) (by constructor <;> omega) (by constructor <;> omega) (by omega) W m1 m2
      have HSUM := Lib.hid hsum
      clear hcw hcr hsucc hrsucc hBr hrb hroom hsum hsz
      rcases k with _ | j
      · rw [Nat.add_zero] at d1
        go_wp2_with (go_at_call 97; refine (HSUM.out _ (by simp [go_sem]) (by simp [go_sem])).mono ?_; rintro e w5 ⟨rfl, rfl⟩)
        go_roundw
        case rel =>
          refine ⟨1, by omega, by go_num, ?_, ?_, hrel.out.1.alloc HSZ.out _, fun j hj => by omega⟩
          · rw [HS.out.1]
          · rw [HS.out.2.1]
        case measure => simp [intOf]; omega
      · obtain ⟨bw2, offw2, e2, _, hcw2⟩ := HW3.out j (by omega)
        cases e2
        have ha2 := HALL.out j (by omega)
        have d3 := (HS.out.2.2.1.cell (p := ⟨bw, offw + j, none⟩) hbw).trans hcw2
        obtain ⟨y, hy⟩ : ∃ y : Nat, nth l j = y := ⟨(nth l j).toNat, by omega⟩
        have HY := Lib.hid hy
        rw [hy] at d3
        have hj1 : (j : Int) < l.length := by omega
        clear hcw2 ha2
        by_cases hyx : y < x
        · have hyx' : ¬ (x : Int) ≤ y := by omega
          go_wp2_with (go_at_call 97; refine (HSUM.out _ (by simp [go_sem]) (by simp [go_sem])).mono ?_; rintro e w5 ⟨rfl, rfl⟩)
          go_roundw
          case rel =>
            refine ⟨j + 1 + 1, by omega, by go_num, ?_, ?_, hrel.out.1.alloc HSZ.out _, fun i hi => ?_⟩
            · rw [HS.out.1]
            · rw [HS.out.2.1]
            · by_cases e : i = j
              · rw [e, HY.out, HXK.out]; omega
              · exact hrel.out.2 i (by omega)
          case measure => simp [intOf]; omega
        · have hyx' : (x : Int) ≤ y := by omega
          go_wp2_with fail
          go_ret2
          refine ⟨?_, HS.out.2.2.1⟩
          rw [HV.out, incB_no (i := j) (by omega) (by rw [HY.out, HXK.out]; omega)]
          rfl
    · obtain rfl : k = l.length := by omega
      have hinc : incB l = true := allB_iff.2 (fun i hi => by simpa using hrel.out.2 i (by omega))
      have hst := setTo_lt (fun i hi => by have := HALL.out i hi; omega) l.length hk
      have HSET := Lib.hid hst
      have hrb := roomTo_bound HOK.out HALL.out l.length hk
      have HRB := Lib.hid hrb
      have HINC := Lib.hid hinc
      have hd := HD.out.2.1.below hrel.out.1
      have HDR := Lib.hid hd
      have hBr := HD.out.1.trans (hrel.out.1.mono HD.out.1.size)
      have HBR := Lib.hid hBr
      clear hst hrb hinc hd hBr
      go_wp2_with (go_at_call 95; refine (caught_any c p _ HDR.out).mono ?_; rintro e w3 ⟨v, rfl, hown, hb3⟩; obtain ⟨a0, cap0, rfl⟩ := owns_slice hown; have H3 := Lib.hid (And.intro hown hb3); clear hown hb3)
      have hn := pairs_of_owns H3.out.1 (needsC_i64 HOK.out) (by have := needsC_len HOK.out; omega)
      have hnlen := needsC_len HOK.out
      obtain ⟨a0', cap0', e', n1, n2, n3⟩ := hn.open
      cases e'
      have HN3 := Lib.hid n3
      obtain ⟨wo, rfl⟩ : ∃ wo : World, wo = wr := ⟨_, rfl⟩
      clear hn n3
      go_loopw [12, 64] (fun a i wq => ∃ k : Nat, k ≤ (needsC c).length ∧ i = .int .i64 k ∧ a = .int .i64 (ratsTo (needsC c) (setTo l l.length) k) ∧ Hid (Below w3.heap.size w3 wq)) (fun _ i _ => (needsC c).length - (intOf i).toNat)
      case atStart => exact ⟨0, Nat.zero_le _, rfl, rfl, Below.refl _ _⟩
      case round =>
        obtain ⟨k, hk, rfl, rfl, hB4⟩ := hrel
        by_cases hlt : k < (needsC c).length
        · have hki : (k : Int) < (needsC c).length := by omega
          obtain ⟨bn, offn, rfl, hbn, m1, m2⟩ := HN3.out k hlt
          have d1 := (hB4.out.cell (p := ⟨bn, offn + k * 2, none⟩) hbn).trans m1
          have d2 := (hB4.out.cell (p := ⟨bn, offn + k * 2 + 1, none⟩) hbn).trans m2
          obtain ⟨f1, f2⟩ := needs_frm HOK.out.houses.2 k hlt
          rw [f1] at d2
          have hba := bits_andNot f2 HSET.out
          have hrk := ratsTo_bound (needs_rats HOK.out) (setTo l l.length) k hk
          have hrr := needs_rats HOK.out k hlt
          have hsucc : ratsTo (needsC c) (setTo l l.length) (k + 1) = if subsetN (frm (needsC c) k) (setTo l l.length) = true then ratsTo (needsC c) (setTo l l.length) k + (nthP (needsC c) k).1 else ratsTo (needsC c) (setTo l l.length) k := rfl
          have hsub : subsetN (frm (needsC c) k) (setTo l l.length) = (frm (needsC c) k &&& (63 - (setTo l l.length &&& 63)) == 0) := rfl
          have hsum : ∀ (b : Nat) (W : World), W.cell? ⟨b, 0, none⟩ = some (.int .i64 (ratsTo (needsC c) (setTo l l.length) k)) → W.cell? ⟨b, 1, none⟩ = some (.int .i64 (nthP (needsC c) k).1) → Calls Tryz.prog 97 #[.slice (some ⟨b, 0, none⟩) 2 2] W fun e w' => e = .returned (.int .i64 (ratsTo (needsC c) (setTo l l.length) k + (nthP (needsC c) k).1)) ∧ W = w' := fun b W m1 m2 =>
            sum_two b 2 _ _ (by constructor <;> omega) (by constructor <;> omega) (by constructor <;> omega) (by omega) W m1 m2
          have HSUM := Lib.hid hsum
          have HSU := Lib.hid (And.intro hsucc hsub)
          have hle4 := hB4.out.size
          clear hsum hsucc hsub m1 m2 hrk hrr
          cases hz : (frm (needsC c) k &&& (63 - (setTo l l.length &&& 63)) == 0)
          · have hz0 : (frm (needsC c) k &&& (63 - (setTo l l.length &&& 63))) ≠ 0 := by intro e; rw [e] at hz; cases hz
            have hz' : ¬ ((frm (needsC c) k &&& (63 - (setTo l l.length &&& 63)) : Nat) : Int) = 0 := fun e => hz0 (Int.natCast_eq_zero.1 e)
            have HZ := Lib.hid hz
            clear hz
            go_wp2_with fail
            go_roundw
            case rel =>
              refine ⟨k + 1, by omega, by go_num, ?_, hB4.out.alloc hle4 _⟩
              rw [HSU.out.1, HSU.out.2, HZ.out]; rfl
            case measure => simp [intOf]; omega
          · have hz' : (frm (needsC c) k &&& (63 - (setTo l l.length &&& 63))) = 0 := by simpa using hz
            rw [hz'] at hba
            have HZ := Lib.hid hz
            clear hz hz'
            go_wp2_with (go_at_call 97; refine (HSUM.out _ _ (by simp [go_sem]) (by simp [go_sem])).mono ?_; rintro e w5 ⟨rfl, rfl⟩)
            go_roundw
            case rel =>
              refine ⟨k + 1, by omega, by go_num, ?_, (hB4.out.alloc hle4 _).alloc (by simp; omega) _⟩
              rw [HSU.out.1, HSU.out.2, HZ.out]; rfl
            case measure => simp [intOf]; omega
        · obtain rfl : k = (needsC c).length := by omega
          have hN : shortN c l = ratsTo (needsC c) (setTo l l.length) (needsC c).length - roomTo c l l.length := rfl
          have hrk := ratsTo_bound (needs_rats HOK.out) (setTo l l.length) _ hk
          have hrb := HRB.out
          have hBf := HBR.out.trans ((H3.out.2.trans (hB4.out.mono H3.out.2.size)).mono HBR.out.size)
          have HBF := Lib.hid hBf
          by_cases hle : ratsTo (needsC c) (setTo l l.length) (needsC c).length ≤ roomTo c l l.length
          · go_wp2_with fail
            go_ret2
            refine ⟨?_, HBF.out⟩
            rw [HV.out, if_pos HINC.out, if_pos (by omega)]
            rfl
          · go_wp2_with fail
            go_ret2
            refine ⟨?_, HBF.out⟩
            rw [HV.out, if_pos HINC.out, if_neg (by omega), hN]
            rfl
end Go.Proofs.YtnhifinfjfpoiaaGreat

namespace Go.Proofs.YtnhifinfjfpoiaaGreat
open Go.RowKit
set_option linter.unusedVariables false
attribute [local go_sem] Oper.semAt_some

/-- Marks swept away: no cells turn. -/
structure Swept (B : Nat) (W W' : World) : Prop where
  below : Below B W W'
  cells : ∀ (k : Nat) (o : Obj), W.heap[k]? = some o → o ≠ .deferred (some []) → W'.heap[k]? = some o
theorem leaves_swept {F : Fence} {n : Nat} {P : Program} {fn : Func} {tmps : Array Value} {R : Ending → World → Prop} {B : Nat} : ∀ (L : List Nat) (W : World), L.Nodup → (∀ D ∈ L, B ≤ D ∧ W.heap[D]? = some (.deferred (some []))) →
    (∀ W', Swept B W W' → LeavesIn F n P fn tmps R [] .returning W') → LeavesInM F n P fn tmps R (L.map markOf) .returning W
  | [], W, _, _, h => h W ⟨Below.refl _ _, fun _ _ h _ => h⟩
  | D :: L, W, hnd, hd, h => by
    obtain ⟨h1, h2⟩ := List.nodup_cons.1 hnd
    obtain ⟨hB, hW⟩ := hd D (by simp)
    refine ⟨by simp, .inl ⟨D, _, rfl, run_takeDeferred hW, ?_⟩⟩
    have hput : Swept B W (W.putObj D (.deferred none)) := by
      refine ⟨⟨rfl, rfl, rfl, ?_, fun k hk => World.putObj_heap_other (by omega)⟩, fun k o hk hne => ?_⟩
      · simp [World.putObj]
      · exact (World.putObj_heap_other (fun e => by rw [e] at hk; rw [hW] at hk; cases hk; exact hne rfl)).trans hk
    refine leaves_swept L _ h2 (fun E hE => ⟨(hd E (by simp [hE])).1, ?_⟩) (fun W' hW' => h W' ⟨hput.below.trans hW'.below, fun k o hk hne => hW'.cells k o (hput.cells k o hk hne) hne⟩)
    exact (World.putObj_heap_other (fun e => h1 (by rw [← e]; exact hE))).trans (hd E (by simp [hE])).2
theorem ret_swept {F : Fence} {n m : Nat} {P : Program} {fn : Func} {tmps : Array Value} {R : Ending → World → Prop} {B : Nat} {ds : List Deferred} {W : World} (hds : MarksLt B m ds W)
    (h : ∀ W', Swept B W W' → LeavesIn F n P fn tmps R [] .returning W') : bodyPostM F n P fn R .ret { tmps := tmps, defers := ds } W := by
  obtain ⟨L, rfl, hL, hd⟩ := hds
  exact leaves_swept L W hL (fun D hD => ⟨(hd D hD).1, (hd D hD).2.2⟩) h
theorem Swept.owns {B : Nat} {W W' : World} (h : Swept B W W') {b e sz n : Nat} {v : Value} {xs : List Value} (ho : W.ownsRow b e sz v n xs) : W'.ownsRow b e sz v n xs := by
  refine ⟨ho.1, ?_⟩
  rcases ho.2 with hn | ⟨g, cap, cur, rfl, hb, hg, rest⟩
  · exact .inl hn
  · exact .inr ⟨g, cap, cur, rfl, hb, h.cells g _ hg (fun e => by cases e), rest⟩
/-- A row of one's own that grows leaves the marks. -/
theorem MarksLt.grown {B n : Nat} {ds : List Deferred} {W W' : World} {b e sz k : Nat} {v : Value} {xs : List Value} (h : MarksLt B n ds W) (ho : W.ownsRow b e sz v k xs) (hg : W.grownBy W' v.ownBlock) : MarksLt B n ds W' :=
  h.kept fun D _ hD => (hg.block D (Array.getElem?_eq_some_iff.1 hD).1 (fun e => by
    rcases ho.2 with hn | ⟨g, cap, cur, rfl, _, hc, _⟩
    · rw [hn.1] at e; cases e
    · simp only [Value.ownBlock, Option.some.injEq] at e
      subst e
      rw [hc] at hD; cases hD)).trans hD

def needAcc (c : Col) (l : List Nat) : Nat := l.foldl (fun acc o => orN acc (leftC c o)) 0
def needFrom (c : Col) (h : Nat) : Nat := needAcc c (members (nearC c h))
theorem needAcc_snoc (c : Col) (l : List Nat) (o : Nat) : needAcc c (l ++ [o]) = orN (needAcc c l) (leftC c o) := by simp [needAcc, List.foldl_append]
theorem needAcc_lt (c : Col) (hc : c.rooms.length ≤ 6) (l : List Nat) : needAcc c l < 64 := by
  have key : ∀ (l : List Nat) (a : Nat), a < 64 → l.foldl (fun acc o => orN acc (leftC c o)) a < 64 := by
    intro l
    induction l with
    | nil => intro a h; exact h
    | cons o l ih => intro a h; exact ih _ (orN_lt h (leftC_lt c hc o))
  exact key l 0 (by decide)
def needTo (c : Col) (k : Nat) : List Int := (List.range k).map fun h => mostC c (fitX c).all (needFrom c h)
/-- How many rats can be in each house in the next night. -/
def needC (c : Col) : List Int := needTo c c.rooms.length
theorem needTo_succ (c : Col) (k : Nat) : needTo c (k + 1) = needTo c k ++ [mostC c (fitX c).all (needFrom c k)] := by simp [needTo, List.range_succ]
theorem needTo_len (c : Col) (k : Nat) : (needTo c k).length = k := by simp [needTo]
theorem needTo_i64 (c : Col) (k : Nat) : ∀ x ∈ needTo c k, I64 x := by
  intro x hx
  obtain ⟨h, _, rfl⟩ := List.mem_map.1 hx
  exact wrap64_i64 _

set_option maxRecDepth 100000 in
set_option maxHeartbeats 2000000 in
theorem need_round (c : Col) (hc6 : c.rooms.length ≤ 6) (m bl bn bI : Nat) (hm : m < 64) (W : World) (x1 : SixIs W bl 129 (leftC c)) (x2 : Boxed W bn 81 (.int .i64 0)) (x3 : Boxed W bI 81 (.int .i64 m))
    (n1 : bn ≠ bl) (n2 : bn ≠ bI) (u0 u1 u2 u3 u4 u5 u6 u8 u9 u11 u12 u13 u14 u15 u16 u17 u18 u19 u20 u21 u22 u23 u24 u25 u26 u27 u28 u29 u30 u31 u32 u33 u34 u36 u37 u38 u39 u40 u41 u42 u43 u44 u45 u46 u47 u48 u49 u50 : Value) (ds : List Deferred) (Q : Exit → Act → World → Prop)
    (hQ : ∀ D W', Boxed W' bn 81 (.int .i64 (needAcc c (members m) : Nat)) → Kept bn bn bn W W' → W.heap.size ≤ D → W'.heap[D]? = some (.deferred (some [])) → Q .normal { tmps := #[u0, u1, u2, u3, u4, u5, u6, .pointer (some ⟨bl, 0, none⟩), u8, u9, .pointer (some ⟨bn, 0, none⟩), u11, u12, u13, u14, u15, u16, u17, u18, u19, u20, u21, u22, u23, u24, u25, u26, u27, u28, u29, u30, u31, u32, u33, u34, .func (.func 101) #[] #[.pointer (some ⟨bI, 0, none⟩)], u36, u37, u38, u39, u40, u41, u42, u43, u44, u45, u46, u47, u48, u49, u50], defers := { target := .collected D, args := #[] } :: ds } W') :
    (sub [1, 1, 1, 1, 1, 0, 1, 0, 0, 1, 1, 0, 0, 1, 1, 0, 1, 0] (bodyOf Tryz.f31)).wpIn Fence.wide 9 Tryz.prog Q { tmps := #[u0, u1, u2, u3, u4, u5, u6, .pointer (some ⟨bl, 0, none⟩), u8, u9, .pointer (some ⟨bn, 0, none⟩), u11, u12, u13, u14, u15, u16, u17, u18, u19, u20, u21, u22, u23, u24, u25, u26, u27, u28, u29, u30, u31, u32, u33, u34, .func (.func 101) #[] #[.pointer (some ⟨bI, 0, none⟩)], u36, u37, u38, u39, u40, u41, u42, u43, u44, u45, u46, u47, u48, u49, u50], defers := ds } W := by
  have HX := Lib.hid (And.intro x1 (And.intro x2 x3)); have HQ := Lib.hid hQ
  have l1 := (Array.getElem?_eq_some_iff.1 x1).1
  have l2 := (Array.getElem?_eq_some_iff.1 x2).1
  have l3 := (Array.getElem?_eq_some_iff.1 x3).1
  clear x1 x2 x3 hQ
  conv => arg 4; whnf
  refine wpIn_rangeFunc_ownG rfl (by decide) (gf := 101) (lb := #[.pointer (some ⟨bI, 0, none⟩)]) rfl trivial Tryz.call101
    (houses_stops Fence.wide 8 m hm trivial trivial rfl (by decide) bI (fun A B => B.cell? ⟨bI, 0, none⟩ = A.cell? ⟨bI, 0, none⟩) (fun A B h => h) W l3 HX.out.2.2.cell)
    (fun h k => k.trans h) (fun W1 l o o' hl ho hc _ => ?kb) (Below.refl _ _) (fun _ => rfl)
    (fun pre W1 => Boxed W1 bn 81 (.int .i64 (needAcc c (vals pre) : Nat)) ∧ Kept bn bn bn W W1)
    (fun _ _ _ => False) ?hI (fun _ _ _ _ _ hs _ _ => hs) ⟨HX.out.2.1, Kept.refl _ _ _ _⟩
    (fun x => { tmps := #[u0, u1, u2, u3, u4, u5, u6, .pointer (some ⟨bl, 0, none⟩), u8, u9, .pointer (some ⟨bn, 0, none⟩), .int .i64 x.1, u12, u13, u14, u15, u16, u17, u18, u19, u20, u21, u22, u23, u24, u25, u26, u27, u28, u29, u30, u31, u32, u33, u34, .func (.func 101) #[] #[.pointer (some ⟨bI, 0, none⟩)], .int .i64 x.1, u37, u38, u39, u40, u41, u42, u43, u44, u45, u46, u47, u48, u49, u50], defers := [] }) ?assign ?body ?done ?stop
  case kb =>
    show (W1.putObj l o').cell? _ = _
    have hne : bI ≠ l := by omega
    exact World.cell?_of_block (w := W1) (World.putObj_heap_other hne)
  case hI =>
    refine ownFrom_of_below (fun s W1 h => h.2.size) ?_
    rintro s W1 W2 hb ⟨g1, g2⟩
    exact ⟨(hb.block _ l2).trans g1, g2.onto hb (Nat.le_refl _)⟩
  case assign =>
    intro l x W1 K hK
    gi_wp2
    exact hK
  case body =>
    rintro l pre x W1 ⟨g1, g2⟩ hlt
    have hx6 := x.2.1
    have hx6i : ((x.1 : Nat) : Int) < 6 := by omega
    have e1 := g1.cell
    have e2 := g1.frozen
    have e4 : W1.cell? ⟨bl, x.1, none⟩ = some (.int .i64 (leftC c x.1)) := (g2.cell (p := ⟨bl, x.1, none⟩) l1 n1.symm n1.symm n1.symm).trans (HX.out.1.cell x.1 hx6)
    have hor := bits_orN (needAcc_lt c hc6 (vals pre)) (leftC_lt c hc6 x.1)
    have HG := Lib.hid (And.intro g1 g2)
    clear g1 g2
    refine wpIn_block ?_
    refine wpIn_region_still_tail 5 (by kernel_rfl) (by kernel_rfl) (by kernel_rfl) (fun ⟨a, w, h⟩ => h) ?_
    simp only [List.take_succ_cons, List.take_zero, List.drop_succ_cons, List.drop_zero]
    repeat still_step
    try refine wpStill_nil ?_
    change wpList _ _ _ _ _ W1.drew
    go_wp2_with fail
    have k2 : Kept bn bn bn W1 (W1.setCell ⟨bn, 0, none⟩ (.int .i64 (orN (needAcc c (vals pre)) (leftC c x.1)))).drew := ((Kept.refl _ _ _ W1).set ⟨bn, 0, none⟩ _ (.inl rfl)).drew
    refine ⟨k2.keeps l2 l2 l2, ?_, ?_, HG.out.2.trans k2⟩
    · exact k2.cell (p := ⟨bI, 0, none⟩) (Nat.lt_of_lt_of_le l3 HG.out.2.size) n2.symm n2.symm n2.symm
    · rw [vals_snoc, needAcc_snoc]
      exact heap_setCell_same W1 _ _ _ _ _ HG.out.1
  case done =>
    rintro D ys W1 hD hys ⟨g1, g2⟩ hK
    exact HQ.out D W1 (by rw [← hys]; exact g1) g2 hD hK
  case stop =>
    rintro D e pre W1 _ _ h _
    exact h.elim

def NeedI (c : Col) (p bl : Nat) (w1 : World) (a : Act) (wr : World) : Prop :=
  ∃ (k : Nat) (v : Value) (u0 u1 u2 u3 u6 u9 u10 u11 u12 u13 u14 u15 u16 u17 u18 u19 u20 u21 u22 u23 u24 u27 u28 u29 u30 u31 u32 u33 u34 u35 u36 u37 u38 u39 u40 u41 u42 u43 u44 u45 u46 u47 u48 u49 u50 : Value) (ds : List Deferred), a = { tmps := #[u0, u1, u2, u3, .pointer (some ⟨p, 0, none⟩), .int .i64 (fitX c).all, u6, .pointer (some ⟨bl, 0, none⟩), v, u9, u10, u11, u12, u13, u14, u15, u16, u17, u18, u19, u20, u21, u22, u23, u24, .int .i64 c.rooms.length, .int .i64 k, u27, u28, u29, u30, u31, u32, u33, u34, u35, u36, u37, u38, u39, u40, u41, u42, u43, u44, u45, u46, u47, u48, u49, u50], defers := ds } ∧ k ≤ c.rooms.length ∧ wr.ownsRow w1.heap.size 3 1 v k (intsV (needTo c k)) ∧ SixIs wr bl 129 (leftC c) ∧ Below w1.heap.size w1 wr ∧ MarksLt w1.heap.size wr.heap.size ds wr

set_option maxRecDepth 100000 in
set_option maxHeartbeats 4000000 in
theorem Need_ok (c : Col) (r t u n : Value) (w : World) (hc : ColAt w w.heap.size r t u n c) (hk : fitErr c = 0) :
    Calls Tryz.prog 31 #[.agg #[r, t, u, n]] w fun e w' => ∃ v, e = .returned (.tuple #[v, .int .i64 0]) ∧ IsInts w' w'.heap.size v (needC c) ∧ Below w.heap.size w w' := by
  have o2 := (okCol_of (fit_parts hk).1).houses.2
  have hBW : Below w.heap.size w (w.alloc (.cells #[r, t, u, n] 26)) := (Below.refl w.heap.size w).alloc (Nat.le_refl _) _
  have hcA := (hc.below hBW (Nat.le_refl _)).mono (B' := (w.alloc (.cells #[r, t, u, n] 26)).heap.size) (by simp)
  have HCK := Lib.hid (fitting_ok c r t u n _ hcA hk)
  have c0 : (w.alloc (.cells #[r, t, u, n] 26)).cell? ⟨w.heap.size, 0, none⟩ = some r := by simp [go_sem]
  have HI0 := Lib.hid (info_parts infoInt)
  obtain ⟨hr, htr, hu, hn⟩ := hc
  obtain ⟨ar, cr, rfl, _⟩ := hr.open
  obtain ⟨at_, ct, rfl, _⟩ := htr.open
  obtain ⟨au, cu, rfl, _⟩ := hu.open
  obtain ⟨an, cn, rfl, _⟩ := hn.open
  have HB := Lib.hid hBW
  clear hr htr hu hn hBW hk hcA
  refine (callsIn_wide (n := 9)).1 ?_
  refine callsIn_of_wp_marks Tryz.func31 rfl trivial ?_ rfl
  simp only [Tryz.ntmps31, List.size_toArray, List.length_cons, List.length_nil, Nat.reduceAdd, Nat.reduceSub, Array.replicate_succ, Array.replicate_zero, List.push_toArray, List.append_toArray, List.nil_append, List.cons_append]
  have hkey0 : ∀ w1 w2 : World, Below (w.alloc (.cells #[.slice ar c.rooms.length cr, .slice at_ c.traps.length ct, .slice au c.runs.length cu, .slice an c.nights.length cn] 26)).heap.size (w.alloc (.cells #[.slice ar c.rooms.length cr, .slice at_ c.traps.length ct, .slice au c.runs.length cu, .slice an c.nights.length cn] 26)) w1 → Below w1.heap.size w1 w2 → w2.cell? ⟨w.heap.size, 0, none⟩ = some (.slice ar c.rooms.length cr) := fun w1 w2 h h2 => (h2.cell (p := ⟨w.heap.size, 0, none⟩) (Nat.lt_of_lt_of_le (by simp) h.size)).trans ((h.cell (p := ⟨w.heap.size, 0, none⟩) (by simp)).trans c0)
  have HK := Lib.hid hkey0; clear hkey0 c0
  gi_wp2_with (first | (refine ⟨trivial, ?_⟩; gi_at_call 93; refine (callsIn_wide.2 (left_any c p _ HD.out.2)).mono ?_; rintro e w2 ⟨rfl, hb2⟩; have H2 := Lib.hid hb2; have c2 := HK.out w1 (w2.alloc (.cells (six (leftC c)) 129)) HD.out.1 (hb2.alloc hb2.size _); unfold six at c2; clear hb2; simp only [six]) | (refine ⟨trivial, ?_⟩; gi_at_call 90; refine (callsIn_wide.2 HCK.out).mono ?_; rintro e w1 ⟨p, rfl, hb1, hd⟩; have HD := Lib.hid (And.intro hb1 hd); clear hb1 hd))
  have hb2 := H2.out
  have hs3 : SixIs (w2.alloc (.cells (six (leftC c)) 129)) w2.heap.size 129 (leftC c) := heap_alloc_new _ _
  have hb3 : Below w1.heap.size w1 (w2.alloc (.cells (six (leftC c)) 129)) := hb2.alloc hb2.size _
  have H3 := Lib.hid (And.intro hs3 hb3)
  clear hb2 hs3 hb3 c2
  unfold six at H3
  refine wpIn_loop (NeedI c p w2.heap.size w1) (fun a _ => c.rooms.length - (intOf (a.tmps.getD 26 undef)).toNat) ?_ ?_
  · exact ⟨0, .slice none 0 0, _, _, _, _, _, _, _, _, _, _, _, _, _, _, _, _, _, _, _, _, _, _, _, _, _, _, _, _, _, _, _, _, _, _, _, _, _, _, _, _, _, _, _, _, _, [], rfl, Nat.zero_le _, World.ownsRow_nil _ _ _ _, H3.out.1, H3.out.2, MarksLt.nil _ _ _⟩
  · rintro a wr ⟨k, v, u0, u1, u2, u3, u6, u9, u10, u11, u12, u13, u14, u15, u16, u17, u18, u19, u20, u21, u22, u23, u24, u27, u28, u29, u30, u31, u32, u33, u34, u35, u36, u37, u38, u39, u40, u41, u42, u43, u44, u45, u46, u47, u48, u49, u50, ds, rfl, hk, hown, hsix, hB, hmk⟩
    obtain ⟨i0, hi, hz0, hz1, hz2⟩ := HI0.out
    have HR := Lib.hid (And.intro hown (And.intro hsix (And.intro hB hmk)))
    have hsz1 := hB.size
    have hlt2 : w2.heap.size < wr.heap.size := (Array.getElem?_eq_some_iff.1 hsix).1
    by_cases hlt : k < c.rooms.length
    · have hk6 : (k : Int) < 6 := by omega
      have hdr := HD.out.2.below hB
      have hpl := hdr.1
      obtain ⟨_, _, _, _, _, _, _, _, _, hnear, _⟩ := hdr.open
      have c4 : (wr.alloc (.cells #[.int .i64 0] 81)).cell? ⟨p, 4 + k, none⟩ = some (.int .i64 (nearC c k)) := (((Below.refl wr.heap.size wr).alloc (Nat.le_refl _) _).cell (p := ⟨p, 4 + k, none⟩) hpl).trans (hnear k (by omega))
      clear hown hsix hB hmk hnear hdr
      have hnl := nearC_lt c k
      gi_wp2_with (refine ⟨trivial, ?_⟩; gi_at_call 54; refine (houses_in Fence.wide _ _ trivial rfl _).mono ?_; rintro e w' ⟨rfl, rfl⟩)
      have x2 : Boxed ((wr.alloc (.cells #[.int .i64 0] 81)).alloc (.cells #[.int .i64 (nearC c k)] 81)) wr.heap.size 81 (.int .i64 0) := (Boxed.new wr _ _).alloc _
      have x3 : Boxed ((wr.alloc (.cells #[.int .i64 0] 81)).alloc (.cells #[.int .i64 (nearC c k)] 81)) (wr.heap.size + 1) 81 (.int .i64 (nearC c k)) := by
        have := Boxed.new (wr.alloc (.cells #[.int .i64 0] 81)) 81 (.int .i64 (nearC c k))
        rw [World.size_alloc] at this
        exact this
      have hb4 : Below wr.heap.size wr ((wr.alloc (.cells #[.int .i64 0] 81)).alloc (.cells #[.int .i64 (nearC c k)] 81)) := ((Below.refl _ wr).alloc (Nat.le_refl _) _).alloc (by simp) _
      have hs4 : ((wr.alloc (.cells #[.int .i64 0] 81)).alloc (.cells #[.int .i64 (nearC c k)] 81)).heap.size = wr.heap.size + 2 := by simp
      obtain ⟨W4, hW4⟩ : ∃ W4, ((wr.alloc (.cells #[.int .i64 0] 81)).alloc (.cells #[.int .i64 (nearC c k)] 81)) = W4 := ⟨_, rfl⟩
      rw [hW4] at x2 x3 hb4 hs4 ⊢
      clear hW4 c4
      refine need_round c o2 _ w2.heap.size wr.heap.size (wr.heap.size + 1) hnl W4 (HR.out.2.1.below hb4 hlt2) x2 x3 (by omega) (by omega) _ _ _ _ _ _ _ _ _ _ _ _ _ _ _ _ _ _ _ _ _ _ _ _ _ _ _ _ _ _ _ _ _ _ _ _ _ _ _ _ _ _ _ _ _ _ _ _ ds _ ?_
      intro D W5 g1 g2 hD hK
      have hDlt := (Array.getElem?_eq_some_iff.1 hK).1
      have e1 := g1.cell
      have hb5 : Below wr.heap.size wr W5 := hb4.trans (g2.below (by omega) (Nat.le_refl _) (Nat.le_refl _) (Nat.le_refl _))
      have hB5 := HR.out.2.2.1.trans (hb5.mono hsz1)
      have hd5 := HD.out.2.below hB5
      have hsz5 := hb5.size
      have m5 : MarksLt w1.heap.size W5.heap.size ({ target := .collected D, args := #[] } :: ds) W5 := (HR.out.2.2.2.below hb5 (Nat.le_refl _)).cons (by omega) (by omega) hDlt hK
      have H5 := Lib.hid (And.intro (owns_below HR.out.1 hb5) (And.intro (HR.out.2.1.below hb5 hlt2) (And.intro hB5 m5)))
      have HD5 := Lib.hid hd5
      clear g1 g2 hK hb5 m5 x2 x3 hb4 hs4 hB5 hd5
      gi_wp2_with (first | (gi_at_builtin; refine wpListIn_append_own _ rfl _ _ 22 rfl w1.heap.size 3 i0 (.int .i64 0) 1 8 Tryz.underlying22 hi hz0 hz1 hz2 rfl (by decide) _ _ _ rfl HO.out ⟨w6.heap.size, 0, none⟩ 1 1 [.int .i64 (mostC c (fitX c).all (needFrom c k))] rfl rfl (cell_one_new _ _ _) (fun x hx => by simp at hx; subst hx; rfl) (by unfold maxLen; omega) (by omega) (by simp; omega) ?_; intro v' w7 hown' hgrow _; have HG := Lib.hid (And.intro hown' hgrow); clear hown' hgrow) | (refine ⟨trivial, ?_⟩; gi_at_call 91; refine (callsIn_wide.2 (most_any c p _ _ (needAcc_lt c o2 (members (nearC c k))) _ HD5.out)).mono ?_; rintro e w6 ⟨rfl, hb6⟩; have H6 := Lib.hid hb6; have hsz6 := hb6.size; have HO := Lib.hid ((owns_below H5.out.1 hb6).alloc (.cells #[.int .i64 (mostC c (fitX c).all (needFrom c k))] 3)); clear hb6))
      obtain ⟨o5, s5, B5, m5⟩ := H5.out
      obtain ⟨hown', hgrow⟩ := HG.out
      have hb6 := H6.out
      have hbA : Below w1.heap.size w1 (w6.alloc (.cells #[.int .i64 (mostC c (fitX c).all (needFrom c k))] 3)) := (B5.trans (hb6.mono (by omega))).alloc (by omega) _
      have hb6A : Below W5.heap.size W5 (w6.alloc (.cells #[.int .i64 (mostC c (fitX c).all (needFrom c k))] 3)) := hb6.alloc hb6.size _
      have hsixA := s5.below hb6A (by omega)
      have hszA := hgrow.size
      have m6 := (m5.below hb6A (Nat.le_refl _)).grown HO.out hgrow
      refine ⟨⟨k + 1, v', _, _, _, _, _, _, _, _, _, _, _, _, _, _, _, _, _, _, _, _, _, _, _, _, _, _, _, _, _, _, _, _, _, _, _, _, _, _, _, _, _, _, _, _, _, _, rfl, by omega, ?_, (hgrow.block _ (by simp; omega) (not_own HO.out hsixA (by decide))).trans hsixA, below_grown hbA hgrow (fun r hr => (HO.out.lt r hr).1) (by simp; omega), m6.mono (by simp at hszA; omega)⟩, ?_⟩
      · rw [needTo_succ, intsV_app]; exact hown'
      · simp [intOf]; omega
    · obtain rfl : k = c.rooms.length := by omega
      clear hown hsix hB hmk
      gi_wp2_with fail
      refine ret_swept HR.out.2.2.2 (fun W' hW' => ?_)
      have h1 := HB.out.trans (HD.out.1.mono (by simp))
      have o3 := hW'.owns HR.out.1
      refine ⟨.tuple #[v, .int .i64 0], by simp [results, Tryz.results31, go_sem], v, rfl, nums_of_owns (b := w1.heap.size) (e := 3) (by rw [needC, needTo_len]; exact o3) (needTo_i64 c _) (by rw [needC, needTo_len]; omega), ?_⟩
      exact (h1.trans (HR.out.2.2.1.mono h1.size)).trans (hW'.below.mono h1.size)
theorem Need_bad (c : Col) (r t u n : Value) (w : World) (hc : ColAt w w.heap.size r t u n c) (hk : ¬ fitErr c = 0) :
    Calls Tryz.prog 31 #[.agg #[r, t, u, n]] w fun e w' => e = .returned (.tuple #[.slice none 0 0, .int .i64 (fitErr c)]) ∧ Below w.heap.size w w' := by
  have hBW : Below w.heap.size w (w.alloc (.cells #[r, t, u, n] 26)) := (Below.refl w.heap.size w).alloc (Nat.le_refl _) _
  have hcA := (hc.below hBW (Nat.le_refl _)).mono (B' := (w.alloc (.cells #[r, t, u, n] 26)).heap.size) (by simp)
  have HCK := Lib.hid (fitting_bad c r t u n _ hcA hk)
  obtain ⟨hr, htr, hu, hn⟩ := hc
  obtain ⟨ar, cr, rfl, _⟩ := hr.open
  obtain ⟨at_, ct, rfl, _⟩ := htr.open
  obtain ⟨au, cu, rfl, _⟩ := hu.open
  obtain ⟨an, cn, rfl, _⟩ := hn.open
  have HB := Lib.hid hBW
  have hk1 : (fitErr c == 0) = false := by simpa using hk
  have hk2 : (fitErr c != 0) = true := by simp [bne, hk1]
  clear hr htr hu hn hBW hk hcA
  go_enter Tryz.func31, Tryz.ntmps31
  go_wp2_with fail
  refine HCK.out.mono ?_
  rintro e w1 ⟨rfl, hb1⟩
  go_wp2_with fail
  go_ret2
  exact ⟨rfl, HB.out.trans (hb1.mono (by simp))⟩
end Go.Proofs.YtnhifinfjfpoiaaGreat

namespace Go.Proofs.YtnhifinfjfpoiaaGreat
open Go.RowKit
set_option linter.unusedVariables false

def ownTo (nl : List (Int × Int)) (h : Nat) : Nat → Int
  | 0 => 0
  | k + 1 => if (frm nl k).testBit h = true then ownTo nl h k + (nthP nl k).1 else ownTo nl h k
def startOwn (c : Col) (h : Nat) : Int := if (unionN (leftC c)).testBit h = true then nth c.rooms h else ownTo (needsC c) h (needsC c).length
def startOf (c : Col) (h : Nat) : Int × Int := (wrap64 ((fitX c).all - (shareF (needsC c) (c.rooms.set h 0)).all), min (startOwn c h) (nth c.rooms h))
def startsTo (c : Col) (k : Nat) : List (Int × Int) := (List.range k).map (startOf c)
/-- How many rats have come from each house. -/
def startsC (c : Col) : List (Int × Int) := startsTo c c.rooms.length
theorem startsTo_succ (c : Col) (k : Nat) : startsTo c (k + 1) = startsTo c k ++ [startOf c k] := by simp [startsTo, List.range_succ]
theorem startsTo_len (c : Col) (k : Nat) : (startsTo c k).length = k := by simp [startsTo]
theorem ownTo_bound {nl : List (Int × Int)} (h : ∀ i, i < nl.length → 0 ≤ (nthP nl i).1 ∧ (nthP nl i).1 ≤ 9) (m : Nat) : ∀ k, k ≤ nl.length → 0 ≤ ownTo nl m k ∧ ownTo nl m k ≤ 9 * k
  | 0, _ => ⟨by simp [ownTo], by simp [ownTo]⟩
  | k + 1, hk => by
    have h1 := ownTo_bound h m k (by omega)
    have h2 := h k (by omega)
    unfold ownTo
    split <;> constructor <;> omega
theorem made_open {w : World} {b e g n : Nat} {xs : List Value} (h : w.ownsRow b e 1 (.slice (some ⟨g, 0, none⟩) n n) n xs) : ∃ L : List Value, w.heap[g]? = some (.cells L.toArray e (0, 0)) ∧ L.length = n := by
  obtain ⟨_, h | ⟨g', cap, cur, e', _, hg, _, _, hs, _⟩⟩ := h
  · cases h.1
  · cases e'
    exact ⟨cur.toList, by rw [Array.toArray_toList]; exact hg, by simp [hs]⟩
theorem splice_all (L M : List Value) (h : L.length = M.length) : splice L 0 M = M := by simp [splice, h]
theorem intsV_set (l : List Int) (k : Nat) : (intsV l).toArray.setIfInBounds k (.int .i64 0) = (intsV (l.set k 0)).toArray := by
  apply Array.ext'
  simp [intsV, List.map_set]
theorem ints_of_cells {w : World} {g n : Nat} {l : List Int} {e : Nat} (h : w.heap[g]? = some (.cells (intsV l).toArray e (0, 0))) (hn : l.length = n) (hl : ∀ x ∈ l, I64 x) (hlen : n ≤ 140737488355328) : IsInts w w.heap.size (.slice (some ⟨g, 0, none⟩) n n) l := by
  subst hn
  refine ⟨⟨_, _, rfl, Nat.le_refl _, hlen, .inr ⟨g, 0, rfl, (Array.getElem?_eq_some_iff.1 h).1, fun j hj => ?_⟩⟩, hl⟩
  have h1 := cell_of_row w g (0 + j) _ _ _ h
  refine h1.trans ?_
  rw [Nat.mul_one] at hj
  simp [intsV, nth, hj]
theorem infoSpan : (Tryz.prog.info? 59).map (fun i => (i.zero, i.size, i.bytes)) = some (some (.agg #[.int .i64 0, .int .i64 0]), 2, 16) := by kernel_rfl

set_option maxRecDepth 100000 in
set_option maxHeartbeats 4000000 in
theorem Starts_ok (c : Col) (r t u n : Value) (w : World) (hc : ColAt w w.heap.size r t u n c) (hk : fitErr c = 0) :
    Calls Tryz.prog 29 #[.agg #[r, t, u, n]] w fun e w' => ∃ v, e = .returned (.tuple #[v, .int .i64 0]) ∧ IsPairs w' w'.heap.size v (startsC c) ∧ Below w.heap.size w w' := by
  have ok := okCol_of (fit_parts hk).1
  have o2 := ok.houses.2
  have hBW : Below w.heap.size w (w.alloc (.cells #[r, t, u, n] 26)) := (Below.refl w.heap.size w).alloc (Nat.le_refl _) _
  have hcA := (hc.below hBW (Nat.le_refl _)).mono (B' := (w.alloc (.cells #[r, t, u, n] 26)).heap.size) (by simp)
  have HCK := Lib.hid (fitting_ok c r t u n _ hcA hk)
  have c0 : (w.alloc (.cells #[r, t, u, n] 26)).cell? ⟨w.heap.size, 0, none⟩ = some r := by simp [go_sem]
  have HI0 := Lib.hid (info_parts infoInt)
  have HI1 := Lib.hid (info_parts infoSpan)
  obtain ⟨hr, htr, hu, hn⟩ := hc
  have HRI := Lib.hid hr.2
  obtain ⟨ar, cr, rfl, _, _, hr3⟩ := hr.open
  obtain ⟨at_, ct, rfl, _⟩ := htr.open
  obtain ⟨au, cu, rfl, _⟩ := hu.open
  obtain ⟨an, cn, rfl, _⟩ := hn.open
  have HB := Lib.hid hBW
  have HOK := Lib.hid ok
  have HR3 := Lib.hid hr3
  clear hr htr hu hn hBW hk hcA ok hr3
  go_enter Tryz.func29, Tryz.ntmps29
  go_wp2_with fail
  refine HCK.out.mono ?_
  rintro e w1 ⟨p, rfl, hb1, hd⟩
  have c1 := (hb1.cell (p := ⟨w.heap.size, 0, none⟩) (by simp)).trans c0
  have hlt0 : w.heap.size < w1.heap.size := Nat.lt_of_lt_of_le (by simp) hb1.size
  have HD := Lib.hid (And.intro (HB.out.trans (hb1.mono (by simp))) (And.intro hd c1))
  clear hb1 hd c0 c1
  have hkey : ∀ w2 : World, Below w1.heap.size w1 w2 → w2.cell? ⟨w.heap.size, 0, none⟩ = some (.slice ar c.rooms.length cr) := fun w2 h => (h.cell (p := ⟨w.heap.size, 0, none⟩) hlt0).trans HD.out.2.2
  have HK := Lib.hid hkey; clear hkey
  have hul := unionTo_lt (fun j _ => leftC_lt c o2 j) 6 (by omega)
  have HUL : Hid (unionN (leftC c) < 64) := hul
  clear hul
  go_wp2_with (first | (go_at_call 93; refine (left_any c p _ HD.out.2.1).mono ?_; rintro e w2 ⟨rfl, hb2⟩; have H2 := Lib.hid hb2; clear hb2) | (go_at_call 92; refine (union_any (leftC c) (fun j _ => leftC_lt c o2 j) _).mono ?_; rintro e w3 ⟨rfl, hb3⟩; have H3 := Lib.hid (H2.out.trans (hb3.mono H2.out.size)); have c3 := HK.out _ H3.out; clear hb3))
  go_loopw [8, 34] (fun v i wr => ∃ k : Nat, k ≤ c.rooms.length ∧ i = .int .i64 k ∧ Hid (wr.ownsRow w1.heap.size 59 2 v k (pairsV (startsTo c k)) ∧ Below w1.heap.size w1 wr)) (fun _ i _ => c.rooms.length - (intOf i).toNat)
  case atStart => exact ⟨0, Nat.zero_le _, rfl, World.ownsRow_nil _ _ _ _, H3.out⟩
  case round =>
    clear c3
    obtain ⟨k, hk, rfl, hrel⟩ := hrel
    obtain ⟨i0, hi, hz0, hz1, hz2⟩ := HI0.out
    by_cases hlt : k < c.rooms.length
    · have hki : (k : Int) < (c.rooms.length : Int) := by omega
      have hk6 : k < 6 := by omega
      have hsz1 := hrel.out.2.size
      obtain ⟨br, offr, rfl, hbr, hcr⟩ := HR3.out k (by omega)
      have hBr := HD.out.1.trans (hrel.out.2.mono HD.out.1.size)
      have d2 := (hBr.cell (p := ⟨br, offr + k, none⟩) hbr).trans hcr
      have d0 := HK.out wr hrel.out.2
      have hsrc : ∀ W : World, Below wr.heap.size wr W → ∀ j v, (intsV c.rooms)[j]? = some v → W.cell? ((⟨br, offr, none⟩ : Addr).add j) = some v := fun W hW j v hv => by
        have hj : j < c.rooms.length := by have := (List.getElem?_eq_some_iff.1 hv).1; simpa [intsV] using this
        obtain ⟨b', off', e', hb', hc⟩ := HR3.out j hj
        cases e'
        have ha : ((⟨br, offr, none⟩ : Addr).add j) = ⟨br, offr + j, none⟩ := by unfold Addr.add; split <;> simp_all
        rw [ha]
        refine (hW.cell (p := ⟨br, offr + j, none⟩) (Nat.lt_of_lt_of_le hb' hBr.size)).trans ((hBr.cell (p := ⟨br, offr + j, none⟩) hb').trans (hc.trans ?_))
        rw [← hv]
        simp [intsV, hj, nth]
      have HSRC := Lib.hid hsrc
      have hone : ∀ v ∈ intsV c.rooms, v.oneCell' = true := by intro v hv; obtain ⟨x, _, rfl⟩ := List.mem_map.1 hv; rfl
      have HONE := Lib.hid hone
      clear hsrc hcr hone
      go_wp2_with (first | (at_make; refine wpList_make_full _ rfl _ _ 22 rfl wr.heap.size 3 i0 _ 1 Tryz.underlying22 hi hz0 hz1 .i64 .i64 _ _ c.rooms.length rfl rfl rfl rfl (by rw [hz2]; omega) (by unfold maxLen; omega) (Nat.le_refl _) ?_; intro w5 hown5 hgrow5; obtain ⟨L, hL, hLn⟩ := made_open hown5; have hb5 := below_grown (Below.refl wr.heap.size wr) hgrow5 (by simp) (Nat.le_refl _); have H5 := Lib.hid (And.intro hL (And.intro hLn hb5)); have d5 := HK.out w5 (hrel.out.2.trans (hb5.mono hsz1)); clear hown5 hgrow5 hL hb5) | (refine wpList_copy_splice (o := ⟨some 46, _, _, _, _, _⟩) rfl _ _ 22 22 rfl 3 Tryz.underlying22 (by kernel_rfl) (some ⟨wr.heap.size, 0, none⟩) (some ⟨br, offr, none⟩) c.rooms.length c.rooms.length c.rooms.length cr rfl rfl wr.heap.size 0 L 3 H5.out.1 (intsV c.rooms) (by simp [intsV]) (fun h => ⟨rfl, _, rfl, HSRC.out _ H5.out.2.2⟩) (by rw [hLn]; simp [intsV]) HONE.out wr.heap.size wr H5.out.2.2 (Nat.le_refl _) ?_; intro w6 hs6 hb6; have hs6' := hs6.out; rw [splice_all L (intsV c.rooms) (by rw [hLn]; simp [intsV])] at hs6'; have e6 : w6.cell? ⟨wr.heap.size, k, none⟩ = some (.int .i64 (nth c.rooms k)) := (cell_of_row w6 wr.heap.size k _ _ _ hs6').trans (by simp [intsV, nth, hlt]); have e7 := frozen_of_row w6 wr.heap.size k _ _ hs6'; have H6 := Lib.hid (And.intro hs6' hb6); clear hs6 hs6' hb6))
      have h7 : (w6.setCell ⟨wr.heap.size, k, none⟩ (.int .i64 0)).heap[wr.heap.size]? = some (.cells (intsV (c.rooms.set k 0)).toArray 3 (0, 0)) := by rw [heap_setCell_same w6 _ k _ _ _ H6.out.1, intsV_set]
      have hb7 : Below wr.heap.size wr (w6.setCell ⟨wr.heap.size, k, none⟩ (.int .i64 0)) := H6.out.2.setCell (p := ⟨wr.heap.size, k, none⟩) (Nat.le_refl _) _
      obtain ⟨W7, hW7⟩ : ∃ W7, w6.setCell ⟨wr.heap.size, k, none⟩ (.int .i64 0) = W7 := ⟨_, rfl⟩
      rw [hW7] at h7 hb7 ⊢
      clear hW7 e6 e7 d5 d0 d2
      have hdr := HD.out.2.1.below hrel.out.2
      have hd7 := hdr.below hb7
      have hl7 : ∀ x ∈ c.rooms.set k 0, I64 x := fun x hx => by
        rcases List.mem_or_eq_of_mem_set hx with hx | rfl
        · exact HRI.out x hx
        · constructor <;> decide
      have HS := Lib.hid (share_none c p (c.rooms.set k 0) _ W7 hd7 (ints_of_cells (n := c.rooms.length) h7 (by simp) hl7 (by omega)) (by simp; omega))
      have HD7 := Lib.hid (And.intro hd7 hb7)
      clear hdr hd7 hb7 h7 hl7
      go_wp2_with (first | (go_at_call 94; refine HS.out.mono ?_; rintro e w8 ⟨s, g, nv, rfl, g1, g2, g3⟩; have H8 := Lib.hid (And.intro (HD7.out.1.below g2) (HD7.out.2.trans (g2.mono HD7.out.2.size))); clear g1 g2 g3) | (go_at_call 95; refine (caught_any c p _ H8.out.1).mono ?_; rintro e w9 ⟨v, rfl, hown, hb9⟩; obtain ⟨a0, cap0, rfl⟩ := owns_slice hown; have H9 := Lib.hid (And.intro hown (H8.out.2.trans (hb9.mono H8.out.2.size))); clear hown hb9))
      have hn := pairs_of_owns H9.out.1 (needsC_i64 HOK.out) (by have := needsC_len HOK.out; omega)
      have hnlen := needsC_len HOK.out
      obtain ⟨a0', cap0', e', n1, n2, n3⟩ := hn.open
      cases e'
      have HN3 := Lib.hid n3
      have HB9 := Lib.hid H9.out.2
      obtain ⟨wo, rfl⟩ : ∃ wo : World, wo = wr := ⟨_, rfl⟩
      have HREL := Lib.hid hrel.out
      clear hn n3 hrel
      go_loopw [16, 61] (fun a i wq => ∃ j : Nat, j ≤ (needsC c).length ∧ i = .int .i64 j ∧ a = .int .i64 (ownTo (needsC c) k j) ∧ Hid (Below w9.heap.size w9 wq)) (fun _ i _ => (needsC c).length - (intOf i).toNat)
      case atStart => exact ⟨0, Nat.zero_le _, rfl, rfl, Below.refl _ _⟩
      case round =>
        obtain ⟨j, hj, rfl, rfl, hB4⟩ := hrel
        by_cases hjt : j < (needsC c).length
        · have hji : (j : Int) < (needsC c).length := by omega
          obtain ⟨bn, offn, rfl, hbn, m1, m2⟩ := HN3.out j hjt
          have d1 := (hB4.out.cell (p := ⟨bn, offn + j * 2, none⟩) hbn).trans m1
          have d2 := (hB4.out.cell (p := ⟨bn, offn + j * 2 + 1, none⟩) hbn).trans m2
          obtain ⟨f1, f2⟩ := needs_frm o2 j hjt
          rw [f1] at d2
          have hrk := ownTo_bound (needs_rats HOK.out) k j hj
          have hrr := needs_rats HOK.out j hjt
          have hsucc : ownTo (needsC c) k (j + 1) = if (frm (needsC c) j).testBit k = true then ownTo (needsC c) k j + (nthP (needsC c) j).1 else ownTo (needsC c) k j := rfl
          have hsum : ∀ (b : Nat) (W : World), W.cell? ⟨b, 0, none⟩ = some (.int .i64 (ownTo (needsC c) k j)) → W.cell? ⟨b, 1, none⟩ = some (.int .i64 (nthP (needsC c) j).1) → Calls Tryz.prog 97 #[.slice (some ⟨b, 0, none⟩) 2 2] W fun e w' => e = .returned (.int .i64 (ownTo (needsC c) k j + (nthP (needsC c) j).1)) ∧ W = w' := fun b W m1 m2 =>
            sum_two b 2 _ _ (by constructor <;> omega) (by constructor <;> omega) (by constructor <;> omega) (by omega) W m1 m2
          have HSUM := Lib.hid hsum
          have HSU := Lib.hid hsucc
          have hle4 := hB4.out.size
          clear hsum hsucc m1 m2 hrk hrr
          cases hz : (frm (needsC c) j).testBit k
          · have HZ := Lib.hid hz
            clear hz
            go_wp2_with (go_at_call 96; refine (has_as HZ.out f2 hk6 k rfl _).mono ?_; rintro e w5 ⟨rfl, rfl⟩)
            go_roundw
            case rel =>
              refine ⟨j + 1, by omega, by go_num, ?_, hB4.out.alloc hle4 _⟩
              rw [HSU.out, HZ.out]; rfl
            case measure => simp [intOf]; omega
          · have HZ := Lib.hid hz
            clear hz
            go_wp2_with (first | (go_at_call 96; refine (has_as HZ.out f2 hk6 k rfl _).mono ?_; rintro e w5 ⟨rfl, rfl⟩) | (go_at_call 97; refine (HSUM.out _ _ (by simp [go_sem]) (by simp [go_sem])).mono ?_; rintro e w5 ⟨rfl, rfl⟩))
            go_roundw
            case rel =>
              refine ⟨j + 1, by omega, by go_num, ?_, (hB4.out.alloc hle4 _).alloc (by simp; omega) _⟩
              rw [HSU.out, HZ.out]; rfl
            case measure => simp [intOf]; omega
        · obtain rfl : j = (needsC c).length := by omega
          have hOw : startOwn c k = if (unionN (leftC c)).testBit k = true then nth c.rooms k else ownTo (needsC c) k (needsC c).length := rfl
          have hSt : startOf c k = (wrap64 ((fitX c).all - (shareF (needsC c) (c.rooms.set k 0)).all), min (startOwn c k) (nth c.rooms k)) := rfl
          have hBf : Below wo.heap.size wo wr := H9.out.2.trans (hB4.out.mono H9.out.2.size)
          have HBF := Lib.hid hBf
          have hszf := hBf.size
          obtain ⟨i1, hi1, hy0, hy1, hy2⟩ := HI1.out
          have HST := Lib.hid (And.intro hOw hSt)
          clear hOw hSt hBf
          cases hu : (unionN (leftC c)).testBit k
          · have HU := Lib.hid hu
            clear hu
            by_cases hmn : ownTo (needsC c) k (needsC c).length ≤ nth c.rooms k
            ·
              have hv : startOf c k = (wrap64 ((fitX c).all - (shareF (needsC c) (c.rooms.set k 0)).all), ownTo (needsC c) k (needsC c).length) := by rw [HST.out.2, HST.out.1, HU.out, if_neg (by decide), Int.min_eq_left hmn]
              have HVV := Lib.hid hv
              clear hv
              have HO := Lib.hid ((owns_below HREL.out.1 HBF.out).alloc (.cells #[.int .i64 (wrap64 ((fitX c).all - (shareF (needsC c) (c.rooms.set k 0)).all)), .int .i64 (ownTo (needsC c) k (needsC c).length)] 59))
              go_wp2_with (first | (at_builtin; refine wpList_append_own _ rfl _ _ 62 rfl w1.heap.size 59 i1 (.agg #[.int .i64 0, .int .i64 0]) 2 16 Tryz.underlying62 hi1 hy0 hy1 hy2 rfl (by decide) _ _ _ rfl HO.out ⟨wr.heap.size, 0, none⟩ 1 1 [.int .i64 (wrap64 ((fitX c).all - (shareF (needsC c) (c.rooms.set k 0)).all)), .int .i64 (ownTo (needsC c) k (needsC c).length)] rfl rfl (cell_two_new _ _ _ _) (fun x hx => by simp at hx; rcases hx with rfl | rfl <;> rfl) (by unfold maxLen; omega) (by omega) (by simp; omega) ?_; intro v' wz hown' hgrow _; have HG := Lib.hid (And.intro hown' hgrow); clear hown' hgrow) | (go_at_call 96; refine (has_as HU.out HUL.out hk6 k rfl _).mono ?_; rintro e wh ⟨rfl, rfl⟩))
              all_goals try (exfalso; omega)
              all_goals
                go_roundw
                case rel =>
                  obtain ⟨hown', hgrow⟩ := HG.out
                  have hbA : Below w1.heap.size w1 (wr.alloc (.cells #[.int .i64 (wrap64 ((fitX c).all - (shareF (needsC c) (c.rooms.set k 0)).all)), .int .i64 (ownTo (needsC c) k (needsC c).length)] 59)) := (HREL.out.2.trans (HBF.out.mono hsz1)).alloc (by omega) _
                  refine ⟨k + 1, by omega, by go_num, ?_, below_grown hbA hgrow (fun r hr => (HO.out.lt r hr).1) (by simp; omega)⟩
                  rw [startsTo_succ, pairsV_app, HVV.out]
                  exact hown'
                case measure => simp [intOf]; omega
            ·
              have hv : startOf c k = (wrap64 ((fitX c).all - (shareF (needsC c) (c.rooms.set k 0)).all), nth c.rooms k) := by rw [HST.out.2, HST.out.1, HU.out, if_neg (by decide), Int.min_eq_right (by omega)]
              have HVV := Lib.hid hv
              clear hv
              have HO := Lib.hid ((owns_below HREL.out.1 HBF.out).alloc (.cells #[.int .i64 (wrap64 ((fitX c).all - (shareF (needsC c) (c.rooms.set k 0)).all)), .int .i64 (nth c.rooms k)] 59))
              go_wp2_with (first | (at_builtin; refine wpList_append_own _ rfl _ _ 62 rfl w1.heap.size 59 i1 (.agg #[.int .i64 0, .int .i64 0]) 2 16 Tryz.underlying62 hi1 hy0 hy1 hy2 rfl (by decide) _ _ _ rfl HO.out ⟨wr.heap.size, 0, none⟩ 1 1 [.int .i64 (wrap64 ((fitX c).all - (shareF (needsC c) (c.rooms.set k 0)).all)), .int .i64 (nth c.rooms k)] rfl rfl (cell_two_new _ _ _ _) (fun x hx => by simp at hx; rcases hx with rfl | rfl <;> rfl) (by unfold maxLen; omega) (by omega) (by simp; omega) ?_; intro v' wz hown' hgrow _; have HG := Lib.hid (And.intro hown' hgrow); clear hown' hgrow) | (go_at_call 96; refine (has_as HU.out HUL.out hk6 k rfl _).mono ?_; rintro e wh ⟨rfl, rfl⟩))
              all_goals try (exfalso; omega)
              all_goals
                go_roundw
                case rel =>
                  obtain ⟨hown', hgrow⟩ := HG.out
                  have hbA : Below w1.heap.size w1 (wr.alloc (.cells #[.int .i64 (wrap64 ((fitX c).all - (shareF (needsC c) (c.rooms.set k 0)).all)), .int .i64 (nth c.rooms k)] 59)) := (HREL.out.2.trans (HBF.out.mono hsz1)).alloc (by omega) _
                  refine ⟨k + 1, by omega, by go_num, ?_, below_grown hbA hgrow (fun r hr => (HO.out.lt r hr).1) (by simp; omega)⟩
                  rw [startsTo_succ, pairsV_app, HVV.out]
                  exact hown'
                case measure => simp [intOf]; omega
          · have HU := Lib.hid hu
            clear hu
            have hv : startOf c k = (wrap64 ((fitX c).all - (shareF (needsC c) (c.rooms.set k 0)).all), nth c.rooms k) := by rw [HST.out.2, HST.out.1, HU.out, if_pos rfl, Int.min_self]
            have HVV := Lib.hid hv
            clear hv
            have HO := Lib.hid ((owns_below HREL.out.1 HBF.out).alloc (.cells #[.int .i64 (wrap64 ((fitX c).all - (shareF (needsC c) (c.rooms.set k 0)).all)), .int .i64 (nth c.rooms k)] 59))
            go_wp2_with (first | (at_builtin; refine wpList_append_own _ rfl _ _ 62 rfl w1.heap.size 59 i1 (.agg #[.int .i64 0, .int .i64 0]) 2 16 Tryz.underlying62 hi1 hy0 hy1 hy2 rfl (by decide) _ _ _ rfl HO.out ⟨wr.heap.size, 0, none⟩ 1 1 [.int .i64 (wrap64 ((fitX c).all - (shareF (needsC c) (c.rooms.set k 0)).all)), .int .i64 (nth c.rooms k)] rfl rfl (cell_two_new _ _ _ _) (fun x hx => by simp at hx; rcases hx with rfl | rfl <;> rfl) (by unfold maxLen; omega) (by omega) (by simp; omega) ?_; intro v' wz hown' hgrow _; have HG := Lib.hid (And.intro hown' hgrow); clear hown' hgrow) | (go_at_call 96; refine (has_as HU.out HUL.out hk6 k rfl _).mono ?_; rintro e wh ⟨rfl, rfl⟩))
            all_goals try (exfalso; omega)
            all_goals
              go_roundw
              case rel =>
                obtain ⟨hown', hgrow⟩ := HG.out
                have hbA : Below w1.heap.size w1 (wr.alloc (.cells #[.int .i64 (wrap64 ((fitX c).all - (shareF (needsC c) (c.rooms.set k 0)).all)), .int .i64 (nth c.rooms k)] 59)) := (HREL.out.2.trans (HBF.out.mono hsz1)).alloc (by omega) _
                refine ⟨k + 1, by omega, by go_num, ?_, below_grown hbA hgrow (fun r hr => (HO.out.lt r hr).1) (by simp; omega)⟩
                rw [startsTo_succ, pairsV_app, HVV.out]
                exact hown'
              case measure => simp [intOf]; omega
    · obtain rfl : k = c.rooms.length := by omega
      go_wp2_with fail
      go_ret2
      refine ⟨_, rfl, pairs_of_owns (b := w1.heap.size) (e := 59) (by rw [startsC, startsTo_len]; exact hrel.out.1) ?_ (by rw [startsC, startsTo_len]; omega), HD.out.1.trans (hrel.out.2.mono HD.out.1.size)⟩
      intro q hq
      obtain ⟨h, hh, rfl⟩ := List.mem_map.1 hq
      have hh' := HOK.out.room h (List.mem_range.1 hh)
      refine ⟨wrap64_i64 _, ?_⟩
      have h0 : 0 ≤ startOwn c h := by
        unfold startOwn; split
        · exact hh'.1
        · exact (ownTo_bound (needs_rats HOK.out) h _ (Nat.le_refl _)).1
      show I64 (min (startOwn c h) (nth c.rooms h))
      have h1 : min (startOwn c h) (nth c.rooms h) ≤ nth c.rooms h := Int.min_le_right _ _
      have h2 : 0 ≤ min (startOwn c h) (nth c.rooms h) := Int.le_min.2 ⟨h0, hh'.1⟩
      constructor <;> omega
end Go.Proofs.YtnhifinfjfpoiaaGreat
