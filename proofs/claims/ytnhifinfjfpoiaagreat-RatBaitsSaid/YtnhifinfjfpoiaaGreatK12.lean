/- The law RatColonies. -/
import Derived.Test.YtnhifinfjfpoiaaGreatK10
import Derived.Test.YtnhifinfjfpoiaaGreatK09
import Derived.Test.YtnhifinfjfpoiaaGreatK11
import Derived.Deep.DeepCutAuto
namespace Go.Proofs.YtnhifinfjfpoiaaGreat
open Go.RowKit
set_option linter.unusedVariables false
set_option linter.unusedSimpArgs false

/-- Behind the region: a colony of its own and one of the reference's, each in a block. -/
def MidP (W0 : World) (c : Col) (s7 s8 : Value) (wx : World) : Prop :=
  ∃ (p q : Nat) (r t u n r' t' u' n' : Value), s7 = .pointer (some ⟨p, 0, none⟩) ∧ s8 = .pointer (some ⟨q, 0, none⟩) ∧ wx.heap[p]? = some (.cells #[r, t, u, n] 26 (0, 0)) ∧ wx.heap[q]? = some (.cells #[r', t', u', n'] 32 (0, 0)) ∧
    OwnCol wx W0.heap.size r t u n c ∧ RefCol wx W0.heap.size r' t' u' n' c ∧ Below W0.heap.size W0 wx
theorem OwnCol.set_ty {W : World} {b p o t : Nat} {r t' u n x : Value} {c : Col} {cs : Array Value} (h : OwnCol W b r t' u n c) (hp : W.heap[p]? = some (.cells cs t (0, 0))) (h1 : t ≠ 22) (h2 : t ≠ 3) (h3 : t ≠ 48) : OwnCol (W.setCell ⟨p, o, none⟩ x) b r t' u n c :=
  ⟨owns_set_ty h.rooms hp h2, owns_set_ty h.traps hp h2, owns_set_ty h.runs hp h3, h.nights.set_ty hp h1 h2⟩
theorem RefCol.set_ty {W : World} {b p o t : Nat} {r t' u n x : Value} {c : Col} {cs : Array Value} (h : RefCol W b r t' u n c) (hp : W.heap[p]? = some (.cells cs t (0, 0))) (h1 : t ≠ 22) (h2 : t ≠ 3) (h3 : t ≠ 75) : RefCol (W.setCell ⟨p, o, none⟩ x) b r t' u n c :=
  ⟨owns_set_ty h.rooms hp h2, owns_set_ty h.traps hp h2, owns_set_ty h.runs hp h3, h.nights.set_ty hp h1 h2⟩
theorem RefCol.base' {w : World} {B B' : Nat} {r t u n : Value} {c : Col} (h : RefCol w B r t u n c) (hB : B' ≤ B) : RefCol w B' r t u n c :=
  ⟨owns_base h.rooms hB, owns_base h.traps hB, owns_base h.runs hB, h.nights.base hB⟩
/-- Both blocks, as they were made, filled later, or not. -/
abbrev Z4 : Array Value := #[.slice none 0 0, .slice none 0 0, .slice none 0 0, .slice none 0 0]
theorem leaf_aa {W0 W : World} {c : Col} {r t u n r' t' u' n' : Value} (o1 : OwnCol W W0.heap.size r t u n c) (o2 : RefCol W W0.heap.size r' t' u' n' c) (hB : Below W0.heap.size W0 W) :
    MidP W0 c (.pointer (some ⟨W.heap.size, 0, none⟩)) (.pointer (some ⟨W.heap.size + 1, 0, none⟩)) ((W.alloc (.cells #[r, t, u, n] 26)).alloc (.cells #[r', t', u', n'] 32)) := by
  have hb2 : Below W.heap.size W ((W.alloc (.cells #[r, t, u, n] 26)).alloc (.cells #[r', t', u', n'] 32)) := ((Below.refl _ _).alloc (Nat.le_refl _) _).alloc (by simp) _
  exact ⟨_, _, r, t, u, n, r', t', u', n', rfl, rfl, keep _ (blk _ _ _ _ rfl), blk _ _ _ _ (by simp), o1.below hb2, o2.below hb2, hB.trans (hb2.mono hB.size)⟩
theorem leaf_aa' {W0 W : World} {c : Col} {r t u n r' t' u' n' : Value} (o1 : OwnCol W W0.heap.size r t u n c) (o2 : RefCol W W0.heap.size r' t' u' n' c) (hB : Below W0.heap.size W0 W) :
    MidP W0 c (.pointer (some ⟨W.heap.size + 1, 0, none⟩)) (.pointer (some ⟨W.heap.size, 0, none⟩)) ((W.alloc (.cells #[r', t', u', n'] 32)).alloc (.cells #[r, t, u, n] 26)) := by
  have hb2 : Below W.heap.size W ((W.alloc (.cells #[r', t', u', n'] 32)).alloc (.cells #[r, t, u, n] 26)) := ((Below.refl _ _).alloc (Nat.le_refl _) _).alloc (by simp) _
  exact ⟨_, _, r, t, u, n, r', t', u', n', rfl, rfl, blk _ _ _ _ (by simp), keep _ (blk _ _ _ _ rfl), o1.below hb2, o2.below hb2, hB.trans (hb2.mono hB.size)⟩
def set4 (W : World) (p : Nat) (x0 x1 x2 x3 : Value) : World := (((W.setCell ⟨p, 0, none⟩ x0).setCell ⟨p, 1, none⟩ x1).setCell ⟨p, 2, none⟩ x2).setCell ⟨p, 3, none⟩ x3
theorem OwnCol.set4 {W : World} {b p t : Nat} {r t' u n x0 x1 x2 x3 : Value} {c : Col} (h : OwnCol W b r t' u n c) (hp : W.heap[p]? = some (.cells Z4 t (0, 0))) (h1 : t ≠ 22) (h2 : t ≠ 3) (h3 : t ≠ 48) : OwnCol (set4 W p x0 x1 x2 x3) b r t' u n c := by
  obtain ⟨e0, e1, e2, e3⟩ := four_set (x0 := x0) (x1 := x1) (x2 := x2) (x3 := x3) hp
  exact (((h.set_ty hp h1 h2 h3).set_ty e0 h1 h2 h3).set_ty e1 h1 h2 h3).set_ty e2 h1 h2 h3
theorem RefCol.set4 {W : World} {b p t : Nat} {r t' u n x0 x1 x2 x3 : Value} {c : Col} (h : RefCol W b r t' u n c) (hp : W.heap[p]? = some (.cells Z4 t (0, 0))) (h1 : t ≠ 22) (h2 : t ≠ 3) (h3 : t ≠ 75) : RefCol (set4 W p x0 x1 x2 x3) b r t' u n c := by
  obtain ⟨e0, e1, e2, e3⟩ := four_set (x0 := x0) (x1 := x1) (x2 := x2) (x3 := x3) hp
  exact (((h.set_ty hp h1 h2 h3).set_ty e0 h1 h2 h3).set_ty e1 h1 h2 h3).set_ty e2 h1 h2 h3
theorem set4_other {W : World} {p k : Nat} {x0 x1 x2 x3 : Value} (h : k ≠ p) : (Go.Proofs.YtnhifinfjfpoiaaGreat.set4 W p x0 x1 x2 x3).heap[k]? = W.heap[k]? := by
  unfold Go.Proofs.YtnhifinfjfpoiaaGreat.set4
  rw [Below.heap_setCell _ _ _ _ h, Below.heap_setCell _ _ _ _ h, Below.heap_setCell _ _ _ _ h, Below.heap_setCell _ _ _ _ h]
theorem set4_below {B : Nat} {W0 W : World} {p : Nat} {x0 x1 x2 x3 : Value} (h : Below B W0 W) (hp : B ≤ p) : Below B W0 (Go.Proofs.YtnhifinfjfpoiaaGreat.set4 W p x0 x1 x2 x3) :=
  (((h.setCell hp _).setCell hp _).setCell hp _).setCell hp _
theorem leaf_ba {W0 W : World} {c : Col} {p : Nat} {r t u n r' t' u' n' : Value} (o1 : OwnCol W W0.heap.size r t u n c) (o2 : RefCol W W0.heap.size r' t' u' n' c) (hB : Below W0.heap.size W0 W) (hp : W.heap[p]? = some (.cells Z4 26 (0, 0))) (hp0 : W0.heap.size ≤ p) :
    MidP W0 c (.pointer (some ⟨p, 0, none⟩)) (.pointer (some ⟨W.heap.size, 0, none⟩)) ((Go.Proofs.YtnhifinfjfpoiaaGreat.set4 W p r t u n).alloc (.cells #[r', t', u', n'] 32)) := by
  have hsz : (Go.Proofs.YtnhifinfjfpoiaaGreat.set4 W p r t u n).heap.size = W.heap.size := by simp [Go.Proofs.YtnhifinfjfpoiaaGreat.set4]
  have hb2 : Below (Go.Proofs.YtnhifinfjfpoiaaGreat.set4 W p r t u n).heap.size (Go.Proofs.YtnhifinfjfpoiaaGreat.set4 W p r t u n) ((Go.Proofs.YtnhifinfjfpoiaaGreat.set4 W p r t u n).alloc (.cells #[r', t', u', n'] 32)) := (Below.refl _ _).alloc (Nat.le_refl _) _
  have hb3 := set4_below (x0 := r) (x1 := t) (x2 := u) (x3 := n) hB hp0
  exact ⟨_, _, r, t, u, n, r', t', u', n', rfl, rfl, keep _ (four_set hp).2.2.2, blk _ _ _ _ hsz, (o1.set4 hp (by decide) (by decide) (by decide)).below hb2, (o2.set4 hp (by decide) (by decide) (by decide)).below hb2, hb3.trans (hb2.mono hb3.size)⟩
theorem leaf_ab {W0 W : World} {c : Col} {q : Nat} {r t u n r' t' u' n' : Value} (o1 : OwnCol W W0.heap.size r t u n c) (o2 : RefCol W W0.heap.size r' t' u' n' c) (hB : Below W0.heap.size W0 W) (hp : W.heap[q]? = some (.cells Z4 32 (0, 0))) (hp0 : W0.heap.size ≤ q) :
    MidP W0 c (.pointer (some ⟨W.heap.size, 0, none⟩)) (.pointer (some ⟨q, 0, none⟩)) ((Go.Proofs.YtnhifinfjfpoiaaGreat.set4 W q r' t' u' n').alloc (.cells #[r, t, u, n] 26)) := by
  have hsz : (Go.Proofs.YtnhifinfjfpoiaaGreat.set4 W q r' t' u' n').heap.size = W.heap.size := by simp [Go.Proofs.YtnhifinfjfpoiaaGreat.set4]
  have hb2 : Below (Go.Proofs.YtnhifinfjfpoiaaGreat.set4 W q r' t' u' n').heap.size (Go.Proofs.YtnhifinfjfpoiaaGreat.set4 W q r' t' u' n') ((Go.Proofs.YtnhifinfjfpoiaaGreat.set4 W q r' t' u' n').alloc (.cells #[r, t, u, n] 26)) := (Below.refl _ _).alloc (Nat.le_refl _) _
  have hb3 := set4_below (x0 := r') (x1 := t') (x2 := u') (x3 := n') hB hp0
  exact ⟨_, _, r, t, u, n, r', t', u', n', rfl, rfl, blk _ _ _ _ hsz, keep _ (four_set hp).2.2.2, (o1.set4 hp (by decide) (by decide) (by decide)).below hb2, (o2.set4 hp (by decide) (by decide) (by decide)).below hb2, hb3.trans (hb2.mono hb3.size)⟩
theorem leaf_bb {W0 W : World} {c : Col} {p q : Nat} {r t u n r' t' u' n' : Value} (o1 : OwnCol W W0.heap.size r t u n c) (o2 : RefCol W W0.heap.size r' t' u' n' c) (hB : Below W0.heap.size W0 W) (hp : W.heap[p]? = some (.cells Z4 26 (0, 0))) (hp0 : W0.heap.size ≤ p) (hq : W.heap[q]? = some (.cells Z4 32 (0, 0))) (hq0 : W0.heap.size ≤ q) :
    MidP W0 c (.pointer (some ⟨p, 0, none⟩)) (.pointer (some ⟨q, 0, none⟩)) (Go.Proofs.YtnhifinfjfpoiaaGreat.set4 (Go.Proofs.YtnhifinfjfpoiaaGreat.set4 W p r t u n) q r' t' u' n') := by
  have hne : p ≠ q := by rintro rfl; rw [hp] at hq; cases hq
  have hq' : (Go.Proofs.YtnhifinfjfpoiaaGreat.set4 W p r t u n).heap[q]? = some (.cells Z4 32 (0, 0)) := (set4_other hne.symm).trans hq
  have hp' : (Go.Proofs.YtnhifinfjfpoiaaGreat.set4 W p r t u n).heap[p]? = some (.cells #[r, t, u, n] 26 (0, 0)) := (four_set hp).2.2.2
  exact ⟨_, _, r, t, u, n, r', t', u', n', rfl, rfl, (set4_other hne).trans hp', (four_set hq').2.2.2, (o1.set4 hp (by decide) (by decide) (by decide)).set4 hq' (by decide) (by decide) (by decide), (o2.set4 hp (by decide) (by decide) (by decide)).set4 hq' (by decide) (by decide) (by decide), set4_below (set4_below hB hp0) hq0⟩
theorem keepD {w : World} {k : Nat} {x : Obj} (o : Obj) (h : w.heap[k]? = some x) : (w.alloc o).drew.heap[k]? = some x := keep o h
theorem blkD (w : World) (cs : Array Value) (t : TypeId) (n : Nat) (h : w.heap.size = n) : (w.alloc (.cells cs t)).drew.heap[n]? = some (.cells cs t (0, 0)) := blk w cs t n h
theorem BoxK.allocDD {W0 W : World} {a : Nat} {r t u n : Value} {o o2 : Obj} (ha : a < W0.heap.size) (h : BoxK W0 a r t u n (W.alloc o2).drew) : BoxK W0 a r t u n ((W.alloc o2).alloc o).drew :=
  BoxK.alloc (o := o) ha h

def origV (c : Col) (h m : Int) : List Int := if askedErr c h m = 0 then natsI (members (org c m.toNat h.toNat)) else []
theorem orig_both (c : Col) (r t u n : Value) (h m : Int) (w : World) (hc : ColAt w w.heap.size r t u n c) :
    (Calls Tryz.prog 27 #[.agg #[r, t, u, n], .int .i64 h, .int .i64 m] w fun e w' => ∃ v, e = .returned (.tuple #[v, .int .i64 (askedErr c h m)]) ∧ IsInts w' w'.heap.size v (origV c h m) ∧ Below w.heap.size w w') ∧
    (Calls Tryz.prog 63 #[.agg #[r, t, u, n], .int .i64 h, .int .i64 m] w fun e w' => ∃ v, e = .returned (.tuple #[v, .int .i64 (askedErr c h m)]) ∧ IsInts w' w'.heap.size v (origV c h m) ∧ Below w.heap.size w w') := by
  by_cases q : askedErr c h m = 0
  · have e : origV c h m = natsI (members (org c m.toNat h.toNat)) := by unfold origV; rw [if_pos q]
    rw [e, q]
    exact ⟨Origins_good c r t u n h m w hc q, rOrigins_good c r t u n h m w hc q⟩
  · have e : origV c h m = [] := by unfold origV; rw [if_neg q]
    rw [e]
    exact ⟨(Origins_bad c r t u n h m w hc q).mono fun _ w' ⟨h1, h2⟩ => ⟨_, h1, ints_nil w' _, h2⟩, (rOrigins_bad c r t u n h m w hc q).mono fun _ w' ⟨h1, h2⟩ => ⟨_, h1, ints_nil w' _, h2⟩⟩
/-- What stands while a law compares: the colony that came in, one of its own, and one of the reference's. -/
structure LawAt (w W : World) (p q : Nat) (r t u n r1 t1 u1 n1 r2 t2 u2 n2 : Value) (c : Col) : Prop where
  hp : W.heap[p]? = some (.cells #[r1, t1, u1, n1] 26 (0, 0))
  hq : W.heap[q]? = some (.cells #[r2, t2, u2, n2] 32 (0, 0))
  box : W.heap[w.heap.size]? = some (.cells #[r, t, u, n] 26 (0, 0))
  arg : ColAt W W.heap.size r t u n c
  own : ColAt W W.heap.size r1 t1 u1 n1 c
  ref : ColAt W W.heap.size r2 t2 u2 n2 c
  below : Below w.heap.size w W
theorem LawAt.on {w W W' : World} {p q : Nat} {r t u n r1 t1 u1 n1 r2 t2 u2 n2 : Value} {c : Col} (L : LawAt w W p q r t u n r1 t1 u1 n1 r2 t2 u2 n2 c) (hb : Below W.heap.size W W') : LawAt w W' p q r t u n r1 t1 u1 n1 r2 t2 u2 n2 c :=
  ⟨blk_on L.hp hb, blk_on L.hq hb, blk_on L.box hb, L.arg.on hb, L.own.on hb, L.ref.on hb, L.below.trans (hb.mono L.below.size)⟩
theorem four_cells {W : World} {p t : Nat} {a b c d : Value} (h : W.heap[p]? = some (.cells #[a, b, c, d] t (0, 0))) : W.cell? ⟨p, 0, none⟩ = some a ∧ W.cell? ⟨p, 1, none⟩ = some b ∧ W.cell? ⟨p, 2, none⟩ = some c ∧ W.cell? ⟨p, 3, none⟩ = some d :=
  ⟨(cell_of_row _ _ 0 _ _ _ h).trans rfl, (cell_of_row _ _ 1 _ _ _ h).trans rfl, (cell_of_row _ _ 2 _ _ _ h).trans rfl, (cell_of_row _ _ 3 _ _ _ h).trans rfl⟩
abbrev PQ (A : World) (p q : Nat) (r t u n r' t' u' n' : Value) (W : World) : Prop :=
  W.cell? ⟨p, 0, none⟩ = some r ∧ W.cell? ⟨p, 1, none⟩ = some t ∧ W.cell? ⟨p, 2, none⟩ = some u ∧ W.cell? ⟨p, 3, none⟩ = some n ∧ W.cell? ⟨q, 0, none⟩ = some r' ∧ W.cell? ⟨q, 1, none⟩ = some t' ∧ W.cell? ⟨q, 2, none⟩ = some u' ∧ W.cell? ⟨q, 3, none⟩ = some n' ∧ Hid (Below A.heap.size A W)
theorem PQ.of {A W : World} {p q t1 t2 : Nat} {r t u n r' t' u' n' : Value} (hp : A.heap[p]? = some (.cells #[r, t, u, n] t1 (0, 0))) (hq : A.heap[q]? = some (.cells #[r', t', u', n'] t2 (0, 0))) (hb : Below A.heap.size A W) : PQ A p q r t u n r' t' u' n' W := by
  obtain ⟨a0, a1, a2, a3⟩ := four_cells (blk_on hp hb)
  obtain ⟨b0, b1, b2, b3⟩ := four_cells (blk_on hq hb)
  exact ⟨a0, a1, a2, a3, b0, b1, b2, b3, hb⟩

set_option maxRecDepth 100000 in
set_option maxHeartbeats 8000000 in
theorem colonies_any (c : Col) (r t u n : Value) (h m : Int) (w : World) (hc : ColAt w w.heap.size r t u n c) :
    Calls Tryz.prog 18 #[.agg #[r, t, u, n], .int .i64 h, .int .i64 m] w fun e w' => e = .returned (.bool true) ∧ Below w.heap.size w w' := by
  have hBW : Below w.heap.size w (w.alloc (.cells #[r, t, u, n] 26)) := (Below.refl _ w).alloc (Nat.le_refl _) _
  have HLO := Lib.hid (long_any c r t u n _ (hc.on hBW))
  have HC := Lib.hid (hc.on hBW)
  have c0 : (w.alloc (.cells #[r, t, u, n] 26)).heap[w.heap.size]? = some (.cells #[r, t, u, n] 26 (0, 0)) := blk _ _ _ _ rfl
  obtain ⟨hr, htr, hu, hn⟩ := hc
  have HI := Lib.hid (And.intro hr (And.intro htr (And.intro hu hn)))
  obtain ⟨ar, cr, rfl, _⟩ := hr.open
  obtain ⟨at_, ct, rfl, _⟩ := htr.open
  obtain ⟨au, cu, rfl, _⟩ := hu.open
  obtain ⟨an, cn, rfl, _⟩ := hn.open
  have HB := Lib.hid hBW
  have HX := Lib.hid c0
  clear hr htr hu hn hBW c0
  cases hl : longB c
  case true =>
    rw [hl] at HLO
    clear hl
    go_enter Tryz.func18, Tryz.ntmps18
    go_wp2_with fail
    refine HLO.out.mono ?_
    rintro e w1 ⟨rfl, hb1⟩
    go_wp2_with fail
    refine (awake_any w1).mono ?_
    rintro e w2 ⟨rfl, hb2⟩
    go_wp2_with fail
    go_ret
    have h1 := HB.out.trans (hb1.mono (by simp))
    exact ⟨rfl, h1.trans (hb2.mono h1.size)⟩
  case false =>
    rw [hl] at HLO
    have HSH := Lib.hid (short_of hl HI.out.1.2 HI.out.2.1.2 HI.out.2.2.1.2 (rows_i64 HI.out.2.2.2))
    clear hl HI
    go_enter Tryz.func18, Tryz.ntmps18
    go_upto_region 3 with (go_at_call 5; refine HLO.out.mono ?_; rintro e W0 ⟨rfl, hb0⟩; have H0 := Lib.hid hb0; clear hb0)
    have b0 := blk_on HX.out H0.out
    have hlt := (Array.getElem?_eq_some_iff.1 b0).1
    have hS : BoxK W0 w.heap.size (.slice ar c.rooms.length cr) (.slice at_ c.traps.length ct) (.slice au c.runs.length cu) (.slice an c.nights.length cn) (W0.drewN 1) := BoxK.of b0 1
    have HLT := Lib.hid hlt
    have hcw : ∀ W, Hid (Below W0.heap.size W0 W) → ColAt W W.heap.size (.slice ar c.rooms.length cr) (.slice at_ c.traps.length ct) (.slice au c.runs.length cu) (.slice an c.nights.length cn) c := fun W hW => (HC.out.on H0.out).on hW.out
    have HOWN : Hid (∀ W, Hid (Below W0.heap.size W0 W) → Calls Tryz.prog 7 #[.agg #[.slice ar c.rooms.length cr, .slice at_ c.traps.length ct, .slice au c.runs.length cu, .slice an c.nights.length cn]] W fun e w' => ∃ r' t' u' n', e = .returned (.agg #[r', t', u', n']) ∧ OwnCol w' W.heap.size r' t' u' n' c ∧ Below W.heap.size W w' ∧ W0.heap.size ≤ W.heap.size) := fun W hW => (own_any c _ _ _ _ W (hcw W hW) HSH.out).mono fun _ _ ⟨a, b, d, e, h1, h2, h3⟩ => ⟨a, b, d, e, h1, h2, h3, hW.out.size⟩
    have HTHE : Hid (∀ W, Hid (Below W0.heap.size W0 W) → Calls Tryz.prog 8 #[.agg #[.slice ar c.rooms.length cr, .slice at_ c.traps.length ct, .slice au c.runs.length cu, .slice an c.nights.length cn]] W fun e w' => ∃ r' t' u' n', e = .returned (.agg #[r', t', u', n']) ∧ RefCol w' W.heap.size r' t' u' n' c ∧ Below W.heap.size W w' ∧ W0.heap.size ≤ W.heap.size) := fun W hW => (theirs_any c _ _ _ _ W (hcw W hW) HSH.out).mono fun _ _ ⟨a, b, d, e, h1, h2, h3⟩ => ⟨a, b, d, e, h1, h2, h3, hW.out.size⟩
    have hS' : W0.drew.cell? ⟨w.heap.size, 0, none⟩ = some (.slice ar c.rooms.length cr) ∧ W0.drew.cell? ⟨w.heap.size, 1, none⟩ = some (.slice at_ c.traps.length ct) ∧ W0.drew.cell? ⟨w.heap.size, 2, none⟩ = some (.slice au c.runs.length cu) ∧ W0.drew.cell? ⟨w.heap.size, 3, none⟩ = some (.slice an c.nights.length cn) ∧ Hid (Below W0.heap.size W0 W0.drew) := hS
    have HSS := Lib.hid hS'
    clear b0 hlt hS hcw
    have hsz0 : ∀ o, (W0.alloc o).drew.heap.size = W0.heap.size + 1 := fun o => World.size_alloc W0 o
    have hsz1 : ∀ o o2, ((W0.alloc o).alloc o2).drew.heap.size = W0.heap.size + 1 + 1 := fun o o2 => by rw [← World.size_alloc W0 o]; exact World.size_alloc (W0.alloc o) o2
    go_cut [7, 8] (fun s7 s8 wx => MidP W0 c s7 s8 wx)
    case first =>
      go_region_held3 (fun w' => w'.cell? ⟨w.heap.size, 0, none⟩ = some (.slice ar c.rooms.length cr) ∧ w'.cell? ⟨w.heap.size, 1, none⟩ = some (.slice at_ c.traps.length ct) ∧ w'.cell? ⟨w.heap.size, 2, none⟩ = some (.slice au c.runs.length cu) ∧ w'.cell? ⟨w.heap.size, 3, none⟩ = some (.slice an c.nights.length cn) ∧ Hid (Below W0.heap.size W0 w')) (first | with_reducible assumption | with_reducible exact BoxK.alloc HLT.out (BoxK.alloc HLT.out HS2.out) | with_reducible exact BoxK.alloc HLT.out HS2.out | with_reducible exact BoxK.alloc HLT.out (BoxK.store HLT.out (by first | omega | (simp; omega)) HS2.out) | with_reducible exact BoxK.store HLT.out (by first | omega | (simp; omega)) (BoxK.store HLT.out (by first | omega | (simp; omega)) HS2.out) | with_reducible exact BoxK.store HLT.out (by first | omega | (simp; omega)) HS2.out | with_reducible exact BoxK.below HLT.out (by assumption) (by assumption) | with_reducible exact BoxK.alloc HLT.out (BoxK.alloc HLT.out HS1.out) | with_reducible exact BoxK.alloc HLT.out HS1.out | with_reducible exact BoxK.allocD HLT.out (by assumption) | with_reducible exact BoxK.allocDD HLT.out (by assumption) | fail) (first | (go_at_call 7; (with_reducible refine (HOWN.out _ (by exact (by assumption : _ ∧ _ ∧ _ ∧ _ ∧ Hid _).2.2.2.2)).mono ?_); rintro e w1 ⟨r1, t1, u1, n1, rfl, hx1, hb1, hz1⟩; obtain ⟨a11, q11, a12, q12, a13, q13, a14, q14, rfl, rfl, rfl, rfl⟩ := hx1.slices; obtain ⟨hcb1, hfb1⟩ := bcell hb1; have m1 := hb1.size; (try rw [hsz0] at m1); (try rw [hsz1] at m1); (try have k1 : W0.heap.size < w1.heap.size := by omega); (try have j1 : W0.heap.size + 1 < w1.heap.size := by omega); have l1 : ∀ x, x < _ → x < w1.heap.size := fun x hx => Nat.lt_of_lt_of_le hx m1; have HX1 := Lib.hid hx1; have HS1 := Lib.hid (BoxK.below HLT.out hb1 (by assumption)); clear hx1) | (go_at_call 8; (with_reducible refine (HTHE.out _ (by exact (by assumption : _ ∧ _ ∧ _ ∧ _ ∧ Hid _).2.2.2.2)).mono ?_); rintro e w2 ⟨r2, t2, u2, n2, rfl, hx2, hb2, hz2⟩; obtain ⟨a21, q21, a22, q22, a23, q23, a24, q24, rfl, rfl, rfl, rfl⟩ := hx2.slices; obtain ⟨hcb2, hfb2⟩ := bcell hb2; have m2 := hb2.size; (try rw [hsz0] at m2); (try rw [hsz1] at m2); (try have k2 : W0.heap.size < w2.heap.size := by omega); (try have j2 : W0.heap.size + 1 < w2.heap.size := by omega); have l2 : ∀ x, x < _ → x < w2.heap.size := fun x hx => Nat.lt_of_lt_of_le hx m2; have HX2 := Lib.hid hx2; have HS2 := Lib.hid (BoxK.below HLT.out hb2 (by assumption)); clear hx2))
      all_goals
        have hB1 : Below W0.heap.size W0 w1 := HS1.out.2.2.2.2.out
        have hB2 : Below W0.heap.size W0 w2 := HS2.out.2.2.2.2.out
        have o1 := HX1.out.base hz1
        have o2 := HX2.out.base' hz2
        have o1b : OwnCol w2 W0.heap.size (.slice a11 c.rooms.length q11) (.slice a12 c.traps.length q12) (.slice a13 c.runs.length q13) (.slice a14 c.nights.length q14) c := by first | exact o1.below hb2 | exact o1.below (((Below.refl _ _).alloc (Nat.le_refl _) _).trans (hb2.mono (by simp))) | exact o1.below ((((Below.refl _ _).alloc (Nat.le_refl _) _).alloc (by simp) _).trans (hb2.mono (by simp; omega)))
        have n2 := hB2.size
        have n1 := hB1.size
        clear hcb1 hcb2 hfb1 hfb2 l1 l2 hB1
      · have HF := Lib.hid (leaf_aa o1b o2 hB2)
        clear o1 o2 o1b hB2 hb1 hb2 hz1 hz2
        go_wp2_with fail
        go_meet
        exact HF.out
      · have HF := Lib.hid (leaf_aa' o1b o2 hB2)
        clear o1 o2 o1b hB2 hb1 hb2 hz1 hz2
        go_wp2_with fail
        go_meet
        exact HF.out
      · have hp : w2.heap[w1.heap.size]? = some (.cells Z4 26 (0, 0)) := (by first | exact blk_on (heap_alloc_new _ _) hb2 | exact blk_on (keep _ (heap_alloc_new _ _)) hb2 | exact blk_on (blk _ _ _ _ (by simp)) hb2 | exact blk_on (blk_on (blkD _ _ _ _ rfl) hb1) hb2 | exact blk_on (keep _ (blk_on (blkD _ _ _ _ rfl) hb1)) hb2 | exact blk_on (blk_on (keepD _ (heap_alloc_new _ _)) hb1) hb2 | exact blk_on (blk_on (blkD _ _ _ _ (by simp)) hb1) hb2)
        have HF := Lib.hid (leaf_ba o1b o2 hB2 hp (by omega))
        clear o1 o2 o1b hB2 hb1 hb2 hz1 hz2 hp
        go_wp2_with fail
        go_meet
        exact HF.out
      · have hp : w2.heap[w1.heap.size]? = some (.cells Z4 26 (0, 0)) := (by first | exact blk_on (heap_alloc_new _ _) hb2 | exact blk_on (keep _ (heap_alloc_new _ _)) hb2 | exact blk_on (blk _ _ _ _ (by simp)) hb2 | exact blk_on (blk_on (blkD _ _ _ _ rfl) hb1) hb2 | exact blk_on (keep _ (blk_on (blkD _ _ _ _ rfl) hb1)) hb2 | exact blk_on (blk_on (keepD _ (heap_alloc_new _ _)) hb1) hb2 | exact blk_on (blk_on (blkD _ _ _ _ (by simp)) hb1) hb2)
        have hq : w2.heap[w1.heap.size + 1]? = some (.cells Z4 32 (0, 0)) := (by first | exact blk_on (heap_alloc_new _ _) hb2 | exact blk_on (keep _ (heap_alloc_new _ _)) hb2 | exact blk_on (blk _ _ _ _ (by simp)) hb2 | exact blk_on (blk_on (blkD _ _ _ _ rfl) hb1) hb2 | exact blk_on (keep _ (blk_on (blkD _ _ _ _ rfl) hb1)) hb2 | exact blk_on (blk_on (keepD _ (heap_alloc_new _ _)) hb1) hb2 | exact blk_on (blk_on (blkD _ _ _ _ (by simp)) hb1) hb2)
        have HF := Lib.hid (leaf_bb o1b o2 hB2 hp (by omega) hq (by omega))
        clear o1 o2 o1b hB2 hb1 hb2 hz1 hz2 hp hq
        go_wp2_with fail
        go_meet
        exact HF.out
      · have hq : w2.heap[w1.heap.size]? = some (.cells Z4 32 (0, 0)) := (by first | exact blk_on (heap_alloc_new _ _) hb2 | exact blk_on (keep _ (heap_alloc_new _ _)) hb2 | exact blk_on (blk _ _ _ _ (by simp)) hb2 | exact blk_on (blk_on (blkD _ _ _ _ rfl) hb1) hb2 | exact blk_on (keep _ (blk_on (blkD _ _ _ _ rfl) hb1)) hb2 | exact blk_on (blk_on (keepD _ (heap_alloc_new _ _)) hb1) hb2 | exact blk_on (blk_on (blkD _ _ _ _ (by simp)) hb1) hb2)
        have HF := Lib.hid (leaf_ab o1b o2 hB2 hq (by omega))
        clear o1 o2 o1b hB2 hb1 hb2 hz1 hz2 hq
        go_wp2_with fail
        go_meet
        exact HF.out
      · have hp : w2.heap[w1.heap.size + 1]? = some (.cells Z4 26 (0, 0)) := (by first | exact blk_on (heap_alloc_new _ _) hb2 | exact blk_on (keep _ (heap_alloc_new _ _)) hb2 | exact blk_on (blk _ _ _ _ (by simp)) hb2 | exact blk_on (blk_on (blkD _ _ _ _ rfl) hb1) hb2 | exact blk_on (keep _ (blk_on (blkD _ _ _ _ rfl) hb1)) hb2 | exact blk_on (blk_on (keepD _ (heap_alloc_new _ _)) hb1) hb2 | exact blk_on (blk_on (blkD _ _ _ _ (by simp)) hb1) hb2)
        have hq : w2.heap[w1.heap.size]? = some (.cells Z4 32 (0, 0)) := (by first | exact blk_on (heap_alloc_new _ _) hb2 | exact blk_on (keep _ (heap_alloc_new _ _)) hb2 | exact blk_on (blk _ _ _ _ (by simp)) hb2 | exact blk_on (blk_on (blkD _ _ _ _ rfl) hb1) hb2 | exact blk_on (keep _ (blk_on (blkD _ _ _ _ rfl) hb1)) hb2 | exact blk_on (blk_on (keepD _ (heap_alloc_new _ _)) hb1) hb2 | exact blk_on (blk_on (blkD _ _ _ _ (by simp)) hb1) hb2)
        have HF := Lib.hid (leaf_bb o1b o2 hB2 hp (by omega) hq (by omega))
        clear o1 o2 o1b hB2 hb1 hb2 hz1 hz2 hp hq
        go_wp2_with fail
        go_meet
        exact HF.out
      · have hp : w2.heap[W0.heap.size]? = some (.cells Z4 26 (0, 0)) := (by first | exact blk_on (heap_alloc_new _ _) hb2 | exact blk_on (keep _ (heap_alloc_new _ _)) hb2 | exact blk_on (blk _ _ _ _ (by simp)) hb2 | exact blk_on (blk_on (blkD _ _ _ _ rfl) hb1) hb2 | exact blk_on (keep _ (blk_on (blkD _ _ _ _ rfl) hb1)) hb2 | exact blk_on (blk_on (keepD _ (heap_alloc_new _ _)) hb1) hb2 | exact blk_on (blk_on (blkD _ _ _ _ (by simp)) hb1) hb2)
        have HF := Lib.hid (leaf_ba o1b o2 hB2 hp (by omega))
        clear o1 o2 o1b hB2 hb1 hb2 hz1 hz2 hp
        go_wp2_with fail
        go_meet
        exact HF.out
      · have hp : w2.heap[W0.heap.size]? = some (.cells Z4 26 (0, 0)) := (by first | exact blk_on (heap_alloc_new _ _) hb2 | exact blk_on (keep _ (heap_alloc_new _ _)) hb2 | exact blk_on (blk _ _ _ _ (by simp)) hb2 | exact blk_on (blk_on (blkD _ _ _ _ rfl) hb1) hb2 | exact blk_on (keep _ (blk_on (blkD _ _ _ _ rfl) hb1)) hb2 | exact blk_on (blk_on (keepD _ (heap_alloc_new _ _)) hb1) hb2 | exact blk_on (blk_on (blkD _ _ _ _ (by simp)) hb1) hb2)
        have hq : w2.heap[w1.heap.size]? = some (.cells Z4 32 (0, 0)) := (by first | exact blk_on (heap_alloc_new _ _) hb2 | exact blk_on (keep _ (heap_alloc_new _ _)) hb2 | exact blk_on (blk _ _ _ _ (by simp)) hb2 | exact blk_on (blk_on (blkD _ _ _ _ rfl) hb1) hb2 | exact blk_on (keep _ (blk_on (blkD _ _ _ _ rfl) hb1)) hb2 | exact blk_on (blk_on (keepD _ (heap_alloc_new _ _)) hb1) hb2 | exact blk_on (blk_on (blkD _ _ _ _ (by simp)) hb1) hb2)
        have HF := Lib.hid (leaf_bb o1b o2 hB2 hp (by omega) hq (by omega))
        clear o1 o2 o1b hB2 hb1 hb2 hz1 hz2 hp hq
        go_wp2_with fail
        go_meet
        exact HF.out
      · have hp : w2.heap[W0.heap.size]? = some (.cells Z4 26 (0, 0)) := (by first | exact blk_on (heap_alloc_new _ _) hb2 | exact blk_on (keep _ (heap_alloc_new _ _)) hb2 | exact blk_on (blk _ _ _ _ (by simp)) hb2 | exact blk_on (blk_on (blkD _ _ _ _ rfl) hb1) hb2 | exact blk_on (keep _ (blk_on (blkD _ _ _ _ rfl) hb1)) hb2 | exact blk_on (blk_on (keepD _ (heap_alloc_new _ _)) hb1) hb2 | exact blk_on (blk_on (blkD _ _ _ _ (by simp)) hb1) hb2)
        have hq : w2.heap[W0.heap.size + 1]? = some (.cells Z4 32 (0, 0)) := (by first | exact blk_on (heap_alloc_new _ _) hb2 | exact blk_on (keep _ (heap_alloc_new _ _)) hb2 | exact blk_on (blk _ _ _ _ (by simp)) hb2 | exact blk_on (blk_on (blkD _ _ _ _ rfl) hb1) hb2 | exact blk_on (keep _ (blk_on (blkD _ _ _ _ rfl) hb1)) hb2 | exact blk_on (blk_on (keepD _ (heap_alloc_new _ _)) hb1) hb2 | exact blk_on (blk_on (blkD _ _ _ _ (by simp)) hb1) hb2)
        have HF := Lib.hid (leaf_bb o1b o2 hB2 hp (by omega) hq (by omega))
        clear o1 o2 o1b hB2 hb1 hb2 hz1 hz2 hp hq
        go_wp2_with fail
        go_meet
        exact HF.out
      · have hq : w2.heap[W0.heap.size]? = some (.cells Z4 32 (0, 0)) := (by first | exact blk_on (heap_alloc_new _ _) hb2 | exact blk_on (keep _ (heap_alloc_new _ _)) hb2 | exact blk_on (blk _ _ _ _ (by simp)) hb2 | exact blk_on (blk_on (blkD _ _ _ _ rfl) hb1) hb2 | exact blk_on (keep _ (blk_on (blkD _ _ _ _ rfl) hb1)) hb2 | exact blk_on (blk_on (keepD _ (heap_alloc_new _ _)) hb1) hb2 | exact blk_on (blk_on (blkD _ _ _ _ (by simp)) hb1) hb2)
        have HF := Lib.hid (leaf_ab o1b o2 hB2 hq (by omega))
        clear o1 o2 o1b hB2 hb1 hb2 hz1 hz2 hq
        go_wp2_with fail
        go_meet
        exact HF.out
      · have hp : w2.heap[w1.heap.size]? = some (.cells Z4 26 (0, 0)) := (by first | exact blk_on (heap_alloc_new _ _) hb2 | exact blk_on (keep _ (heap_alloc_new _ _)) hb2 | exact blk_on (blk _ _ _ _ (by simp)) hb2 | exact blk_on (blk_on (blkD _ _ _ _ rfl) hb1) hb2 | exact blk_on (keep _ (blk_on (blkD _ _ _ _ rfl) hb1)) hb2 | exact blk_on (blk_on (keepD _ (heap_alloc_new _ _)) hb1) hb2 | exact blk_on (blk_on (blkD _ _ _ _ (by simp)) hb1) hb2)
        have hq : w2.heap[W0.heap.size]? = some (.cells Z4 32 (0, 0)) := (by first | exact blk_on (heap_alloc_new _ _) hb2 | exact blk_on (keep _ (heap_alloc_new _ _)) hb2 | exact blk_on (blk _ _ _ _ (by simp)) hb2 | exact blk_on (blk_on (blkD _ _ _ _ rfl) hb1) hb2 | exact blk_on (keep _ (blk_on (blkD _ _ _ _ rfl) hb1)) hb2 | exact blk_on (blk_on (keepD _ (heap_alloc_new _ _)) hb1) hb2 | exact blk_on (blk_on (blkD _ _ _ _ (by simp)) hb1) hb2)
        have HF := Lib.hid (leaf_bb o1b o2 hB2 hp (by omega) hq (by omega))
        clear o1 o2 o1b hB2 hb1 hb2 hz1 hz2 hp hq
        go_wp2_with fail
        go_meet
        exact HF.out
      · have hp : w2.heap[W0.heap.size + 1]? = some (.cells Z4 26 (0, 0)) := (by first | exact blk_on (heap_alloc_new _ _) hb2 | exact blk_on (keep _ (heap_alloc_new _ _)) hb2 | exact blk_on (blk _ _ _ _ (by simp)) hb2 | exact blk_on (blk_on (blkD _ _ _ _ rfl) hb1) hb2 | exact blk_on (keep _ (blk_on (blkD _ _ _ _ rfl) hb1)) hb2 | exact blk_on (blk_on (keepD _ (heap_alloc_new _ _)) hb1) hb2 | exact blk_on (blk_on (blkD _ _ _ _ (by simp)) hb1) hb2)
        have hq : w2.heap[W0.heap.size]? = some (.cells Z4 32 (0, 0)) := (by first | exact blk_on (heap_alloc_new _ _) hb2 | exact blk_on (keep _ (heap_alloc_new _ _)) hb2 | exact blk_on (blk _ _ _ _ (by simp)) hb2 | exact blk_on (blk_on (blkD _ _ _ _ rfl) hb1) hb2 | exact blk_on (keep _ (blk_on (blkD _ _ _ _ rfl) hb1)) hb2 | exact blk_on (blk_on (keepD _ (heap_alloc_new _ _)) hb1) hb2 | exact blk_on (blk_on (blkD _ _ _ _ (by simp)) hb1) hb2)
        have HF := Lib.hid (leaf_bb o1b o2 hB2 hp (by omega) hq (by omega))
        clear o1 o2 o1b hB2 hb1 hb2 hz1 hz2 hp hq
        go_wp2_with fail
        go_meet
        exact HF.out
    case rest =>
      obtain ⟨p, q, r1, t1, u1, n1, r2, t2, u2, n2, rfl, rfl, hp, hq, o1, o2, hB⟩ := hcut
      obtain ⟨a11, q11, a12, q12, a13, q13, a14, q14, rfl, rfl, rfl, rfl⟩ := o1.slices
      obtain ⟨a21, q21, a22, q22, a23, q23, a24, q24, rfl, rfl, rfl, rfl⟩ := o2.slices
      have hL : LawAt w wc p q (.slice ar c.rooms.length cr) (.slice at_ c.traps.length ct) (.slice au c.runs.length cu) (.slice an c.nights.length cn) _ _ _ _ _ _ _ _ c := ⟨hp, hq, blk_on (blk_on HX.out H0.out) hB, ((HC.out.on H0.out).on hB), o1.col HSH.out, o2.col HSH.out, HB.out.trans ((H0.out.trans (hB.mono H0.out.size)).mono HB.out.size)⟩
      have hP : wc.drew.cell? ⟨p, 0, none⟩ = some (.slice a11 c.rooms.length q11) ∧ wc.drew.cell? ⟨p, 1, none⟩ = some (.slice a12 c.traps.length q12) ∧ wc.drew.cell? ⟨p, 2, none⟩ = some (.slice a13 c.runs.length q13) ∧ wc.drew.cell? ⟨p, 3, none⟩ = some (.slice a14 c.nights.length q14) ∧ wc.drew.cell? ⟨q, 0, none⟩ = some (.slice a21 c.rooms.length q21) ∧ wc.drew.cell? ⟨q, 1, none⟩ = some (.slice a22 c.traps.length q22) ∧ wc.drew.cell? ⟨q, 2, none⟩ = some (.slice a23 c.runs.length q23) ∧ wc.drew.cell? ⟨q, 3, none⟩ = some (.slice a24 c.nights.length q24) ∧ Hid (Below wc.heap.size wc wc.drew) := PQ.of hp hq (Below.refl _ _).drew
      have HL := Lib.hid hL
      have HPQ : Hid (∀ W, Hid (Below wc.heap.size wc W) → PQ wc p q (.slice a11 c.rooms.length q11) (.slice a12 c.traps.length q12) (.slice a13 c.runs.length q13) (.slice a14 c.nights.length q14) (.slice a21 c.rooms.length q21) (.slice a22 c.traps.length q22) (.slice a23 c.runs.length q23) (.slice a24 c.nights.length q24) W) := fun W h => PQ.of hL.hp hL.hq h.out
      have HCK : Hid (∀ W, Hid (Below wc.heap.size wc W) → Calls Tryz.prog 24 #[.agg #[.slice a11 c.rooms.length q11, .slice a12 c.traps.length q12, .slice a13 c.runs.length q13, .slice a14 c.nights.length q14]] W fun e w' => e = .returned (.int .i64 (checkC c)) ∧ Hid (Below wc.heap.size wc w')) := fun W h => (check_any c _ _ _ _ W (hL.on h.out).own).mono fun _ _ ⟨h1, h2⟩ => ⟨h1, h.out.trans (h2.mono h.out.size)⟩
      have HRC : Hid (∀ W, Hid (Below wc.heap.size wc W) → Calls Tryz.prog 61 #[.agg #[.slice a21 c.rooms.length q21, .slice a22 c.traps.length q22, .slice a23 c.runs.length q23, .slice a24 c.nights.length q24]] W fun e w' => e = .returned (.int .i64 (checkC c)) ∧ Hid (Below wc.heap.size wc w')) := fun W h => (rcheck_any c _ _ _ _ W (hL.on h.out).ref).mono fun _ _ ⟨h1, h2⟩ => ⟨h1, h.out.trans (h2.mono h.out.size)⟩
      clear hp hq o1 o2 hB hL HOWN HTHE HSS HSH H0 HC HX HB HLO HLT hsz0 hsz1
      go_upto_region 4 with (fail)
      go_region_held3 (fun w' => w'.cell? ⟨p, 0, none⟩ = some (.slice a11 c.rooms.length q11) ∧ w'.cell? ⟨p, 1, none⟩ = some (.slice a12 c.traps.length q12) ∧ w'.cell? ⟨p, 2, none⟩ = some (.slice a13 c.runs.length q13) ∧ w'.cell? ⟨p, 3, none⟩ = some (.slice a14 c.nights.length q14) ∧ w'.cell? ⟨q, 0, none⟩ = some (.slice a21 c.rooms.length q21) ∧ w'.cell? ⟨q, 1, none⟩ = some (.slice a22 c.traps.length q22) ∧ w'.cell? ⟨q, 2, none⟩ = some (.slice a23 c.runs.length q23) ∧ w'.cell? ⟨q, 3, none⟩ = some (.slice a24 c.nights.length q24) ∧ Hid (Below wc.heap.size wc w')) (first | with_reducible assumption | exact HPQ.out _ (by assumption) | fail) (first | (go_at_call 24; (with_reducible refine (HCK.out _ (by exact (by assumption : _ ∧ _ ∧ _ ∧ _ ∧ _ ∧ _ ∧ _ ∧ _ ∧ Hid _).2.2.2.2.2.2.2.2)).mono ?_); rintro e w5 ⟨rfl, hb5⟩) | (go_at_call 61; (with_reducible refine (HRC.out _ (by exact (by assumption : _ ∧ _ ∧ _ ∧ _ ∧ _ ∧ _ ∧ _ ∧ _ ∧ Hid _).2.2.2.2.2.2.2.2)).mono ?_); rintro e w6 ⟨rfl, hb6⟩))
      have L6 := Lib.hid (HL.out.on hb6.out)
      clear hP HPQ HCK HRC HL hb5 hb6
      obtain ⟨x0, x1, x2, x3⟩ := four_cells L6.out.hp
      have HCON := Lib.hid (full_any c _ _ _ _ h m w6 L6.out.own)
      go_wp2_with fail
      refine HCON.out.mono ?_
      rintro e w7 ⟨rfl, hb7⟩
      have L7 := Lib.hid (L6.out.on hb7)
      clear hb7 L6 HCON x0 x1 x2 x3
      obtain ⟨x0, x1, x2, x3⟩ := four_cells L7.out.hq
      have HCON := Lib.hid (rFull_any c _ _ _ _ h m w7 L7.out.ref)
      go_wp2_with fail
      refine HCON.out.mono ?_
      rintro e w8 ⟨rfl, hb8⟩
      have L8 := Lib.hid (L7.out.on hb8)
      clear hb8 L7 HCON x0 x1 x2 x3
      obtain ⟨x0, x1, x2, x3⟩ := four_cells L8.out.hp
      have HCON := Lib.hid (orig_both c _ _ _ _ h m w8 L8.out.own).1
      go_wp2_with fail
      refine HCON.out.mono ?_
      rintro e w9 ⟨v9, rfl, hv9, hb9⟩
      have L9 := Lib.hid (And.intro (L8.out.on hb9) hv9)
      clear hb9 L8 HCON x0 x1 x2 x3 hv9
      obtain ⟨x0, x1, x2, x3⟩ := four_cells L9.out.1.hq
      have HCON := Lib.hid (orig_both c _ _ _ _ h m w9 L9.out.1.ref).2
      go_wp2_with fail
      refine HCON.out.mono ?_
      rintro e w10 ⟨v10, rfl, hv10, hb10⟩
      have hal := alike_any _ _ _ _ w10 (L9.out.2.on hb10) hv10
      simp only [decide_true] at hal
      have HAL := Lib.hid hal
      have L10 := Lib.hid (L9.out.1.on hb10)
      clear hb10 L9 HCON x0 x1 x2 x3 hv10 hal
      obtain ⟨x0, x1, x2, x3⟩ := four_cells L10.out.hp
      obtain ⟨y0, y1, y2, y3⟩ := four_cells L10.out.box
      have HSA := Lib.hid (same_any c _ _ _ _ _ _ _ _ w10 L10.out.own L10.out.arg)
      go_wp2_with fail
      refine HAL.out.mono ?_
      rintro e w11 ⟨rfl, rfl⟩
      clear HAL
      go_wp2_with fail
      refine HSA.out.mono ?_
      rintro e w12 ⟨rfl, hb12⟩
      have L12 := Lib.hid (L10.out.below.trans (hb12.mono L10.out.below.size))
      clear hb12 L10 HSA x0 x1 x2 x3 y0 y1 y2 y3
      go_wp2_with fail
      refine (awake_any w12).mono ?_
      rintro e w13 ⟨rfl, hb13⟩
      have L13 := Lib.hid (L12.out.trans (hb13.mono L12.out.size))
      clear hb13 L12
      go_wp2_with fail
      go_ret
      exact ⟨rfl, L13.out⟩
end Go.Proofs.YtnhifinfjfpoiaaGreat
