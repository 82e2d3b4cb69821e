/-
  barrel.First at the example of the laws over layers.
-/
import Derived.Test.YthpllmefbhjmmaaLeakWalk
namespace Go.Proofs.Ythpllmefbhjmmaa
open Go.RowKit Go.Maps Plain
attribute [local go_sem] Oper.semAt_some

/-- The example's yard: one barrel. -/
abbrev exYard : List Ck := [⟨9, 9, 5, 1, 3⟩]
def exLev (a : Int) : Nat → Int := fun j => if j = 0 then a else 0

/-- A month's greatest leaks: leaked over the function of most. -/
theorem leaked_most (v : Value) (l : List Ck) (m : Int) (f : Nat → Int) (P : Nat) (w : World) (hl : CksAt w v l) (hlen : l.length ≤ 4) (hp : w.cell? ⟨P, 0, none⟩ = some v)
    (hr : ∀ j, j < l.length → -4611686018427387904 ≤ f j - hiOf l j ∧ f j - hiOf l j ≤ 4611686018427387904) :
    Calls Try.prog 90 #[v, .agg #[.int .i64 (f 0), .int .i64 (f 1), .int .i64 (f 2), .int .i64 (f 3)], .int .i64 m, .agg #[leakFn 105 P]] w fun e w' =>
      e = .returned (.tuple #[.agg #[.int .i64 (leakF (hiOf l) f l.length 0), .int .i64 (leakF (hiOf l) f l.length 1), .int .i64 (leakF (hiOf l) f l.length 2), .int .i64 (leakF (hiOf l) f l.length 3)], .int .i64 (fallOf l (hiOf l) f l.length)]) ∧ Below w.heap.size w w' :=
  leaked_105 v l m (hiOf l) f P w hl hlen (fun k W hk hB => by
    rw [hiOf_get hk]
    exact most105 m k P l l[k] v W (hl.below hB) (List.getElem?_eq_getElem hk) ((World.cell?_of_block (a := ⟨P, 0, none⟩) (hB.block _ (World.block_lt_of_cell? w _ hp))).trans hp)) hr

theorem leaked_ex0 (v : Value) (m : Int) (P : Nat) (w : World) (hl : CksAt w v exYard) (hp : w.cell? ⟨P, 0, none⟩ = some v) :
    Calls Try.prog 90 #[v, .agg #[.int .i64 9, .int .i64 0, .int .i64 0, .int .i64 0], .int .i64 m, .agg #[leakFn 105 P]] w fun e w' =>
      e = .returned (.tuple #[.agg #[.int .i64 6, .int .i64 0, .int .i64 0, .int .i64 0], .int .i64 (-1)]) ∧ Below w.heap.size w w' :=
  leaked_most v exYard m (exLev 9) P w hl (by decide) hp (fun j hj => by
    obtain rfl : j = 0 := by simp at hj; omega
    exact ⟨by decide, by decide⟩)
theorem leaked_ex1 (v : Value) (m : Int) (P : Nat) (w : World) (hl : CksAt w v exYard) (hp : w.cell? ⟨P, 0, none⟩ = some v) :
    Calls Try.prog 90 #[v, .agg #[.int .i64 6, .int .i64 0, .int .i64 0, .int .i64 0], .int .i64 m, .agg #[leakFn 105 P]] w fun e w' =>
      e = .returned (.tuple #[.agg #[.int .i64 3, .int .i64 0, .int .i64 0, .int .i64 0], .int .i64 0]) ∧ Below w.heap.size w w' :=
  leaked_most v exYard m (exLev 6) P w hl (by decide) hp (fun j hj => by
    obtain rfl : j = 0 := by simp at hj; omega
    exact ⟨by decide, by decide⟩)
theorem begin_ex (v : Value) (w : World) (hl : CksAt w v exYard) :
    Calls Try.prog 92 #[v] w fun e w' => e = .returned (.agg #[.int .i64 9, .int .i64 0, .int .i64 0, .int .i64 0]) ∧ Below w.heap.size w w' := begin92 v exYard w hl (by decide)

theorem FourAt.below {w w' : World} {B : Nat} {f : Nat → Int} (h : FourAt w B f) (hB : Below w.heap.size w w') : FourAt w' B f := h.kept (hB.block _ (World.block_lt_of_cell? w _ (h 0 (by omega)).1))
theorem FourAt.set4 {w : World} {B : Nat} {f : Nat → Int} (h : FourAt w B f) (g : Nat → Int) : FourAt ((((w.setCell ⟨B, 0, none⟩ (.int .i64 (g 0))).setCell ⟨B, 1, none⟩ (.int .i64 (g 1))).setCell ⟨B, 2, none⟩ (.int .i64 (g 2))).setCell ⟨B, 3, none⟩ (.int .i64 (g 3))) B g := by
  have h4 := (((h.set 0 (g 0)).set 1 (g 1)).set 2 (g 2)).set 3 (g 3)
  intro j hj
  have := h4 j hj
  rcases (by omega : j = 0 ∨ j = 1 ∨ j = 2 ∨ j = 3) with rfl | rfl | rfl | rfl <;> exact this
theorem FourAt.four {w : World} {B : Nat} {f : Nat → Int} (h : FourAt w B f) : (w.cell? ⟨B, 0, none⟩ = some (.int .i64 (f 0)) ∧ w.cell? ⟨B, 1, none⟩ = some (.int .i64 (f 1)) ∧ w.cell? ⟨B, 2, none⟩ = some (.int .i64 (f 2)) ∧ w.cell? ⟨B, 3, none⟩ = some (.int .i64 (f 3))) ∧
    (w.frozen? ⟨B, 0, none⟩ = false ∧ w.frozen? ⟨B, 1, none⟩ = false ∧ w.frozen? ⟨B, 2, none⟩ = false ∧ w.frozen? ⟨B, 3, none⟩ = false) ∧ B < w.heap.size :=
  ⟨⟨(h 0 (by omega)).1, (h 1 (by omega)).1, (h 2 (by omega)).1, (h 3 (by omega)).1⟩, ⟨(h 0 (by omega)).2, (h 1 (by omega)).2, (h 2 (by omega)).2, (h 3 (by omega)).2⟩, World.block_lt_of_cell? w _ (h 0 (by omega)).1⟩

set_option maxRecDepth 100000 in
set_option maxHeartbeats 1600000 in
theorem first84 (a : Option Addr) (cap : Nat) (w : World) (hl : CksAt w (.slice a 1 cap) exYard) :
    Calls Try.prog 84 #[.slice a 1 cap, .int .i64 5] w fun e w' => e = .returned (.tuple #[.int .i64 0, .int .i64 1, .int .i64 0]) ∧ Below w.heap.size w w' := by
  have Hl := Lib.hid hl
  have hin := within88 5 0 12
  rw [show inB 5 0 12 = true by decide] at hin
  have Hin := Lib.hid hin
  clear hl hin
  go_enter Try.func84, Try.ntmps84
  go_wp2_with fail
  refine (checkYard87 _ exYard _ Hl.out (by decide) (by decide : yardB exYard = true)).mono ?_
  rintro e w1 ⟨rfl, hB1⟩
  have HB1 := Lib.hid hB1
  clear hB1
  go_wp2_with fail
  refine (Hin.out _).mono ?_
  rintro e w2 ⟨rfl, rfl⟩
  go_wp2_with fail
  refine (begin_ex _ _ (Hl.out.below HB1.out)).mono ?_
  rintro e w3 ⟨rfl, hB3⟩
  have HB3 := Lib.hid (below_trans HB1.out hB3)
  clear hB3 HB1
  have hF : FourAt (w3.alloc (.cells #[.int .i64 9, .int .i64 0, .int .i64 0, .int .i64 0] 134)) w3.heap.size (exLev (9 - 3 * ((0 : Nat) : Int))) := by
    intro j hj
    rcases (by omega : j = 0 ∨ j = 1 ∨ j = 2 ∨ j = 3) with rfl | rfl | rfl | rfl <;> exact ⟨by go_simp <;> rfl, by go_simp⟩
  have hB4 := below_more HB3.out (.cells #[.int .i64 9, .int .i64 0, .int .i64 0, .int .i64 0] 134)
  have HF := Lib.hid hF
  have HB4 := Lib.hid hB4
  clear hF hB4
  go_wp2_with fail
  have hL := HB3.out.size
  generalize w3.heap.size = L at *
  generalize w3.alloc (.cells #[.int .i64 9, .int .i64 0, .int .i64 0, .int .i64 0] 134) = w4 at *
  clear HB3
  go_loopw [22] (fun i wr => (i = .int .i64 0 ∧ FourAt wr L (exLev 9) ∨ i = .int .i64 1 ∧ FourAt wr L (exLev 6)) ∧ Below w.heap.size w wr) (fun i _ => (5 - intOf i).toNat)
  case atStart => exact ⟨.inl ⟨rfl, HF.out⟩, HB4.out⟩
  case round =>
    obtain ⟨hc, hB⟩ := hrel
    clear HF HB4
    rcases hc with ⟨rfl, hF⟩ | ⟨rfl, hF⟩
    · obtain ⟨⟨c0, c1, c2, c3⟩, ⟨f0, f1, f2, f3⟩, hlt⟩ := hF.four
      have c0' : wr.cell? ⟨L, 0, none⟩ = some (.int .i64 9) := c0
      have c1' : wr.cell? ⟨L, 1, none⟩ = some (.int .i64 0) := c1
      have c2' : wr.cell? ⟨L, 2, none⟩ = some (.int .i64 0) := c2
      have c3' : wr.cell? ⟨L, 3, none⟩ = some (.int .i64 0) := c3
      have Hl1 := Lib.hid (Hl.out.below hB)
      have HF := Lib.hid hF
      have hsz := hB.size
      have HB := Lib.hid hB
      clear hF hB c0 c1 c2 c3
      go_upto_region 11 with fail
      go_cut [10] (fun s10 wx => s10 = .int .i64 (-1) ∧ FourAt wx L (exLev 6) ∧ Below w.heap.size w wx)
      case first =>
        go_region_with (first
          | (go_at_call 91; refine (most91 a 1 cap _).mono ?_; rintro e w5 ⟨rfl, hP, hB5⟩; obtain ⟨⟨d0, d1, d2, d3⟩, ⟨g0, g1, g2, g3⟩, hlt5⟩ := (FourAt.below (w := wr.drew) HF.out hB5).four; have HB5 := Lib.hid hB5; clear hB5)
          | (go_at_call 90; refine (leaked_ex0 _ _ _ _ (CksAt.below (w := wr.drew) Hl1.out HB5.out) hP).mono ?_; rintro e w6 ⟨rfl, hB6⟩; have HB6 := Lib.hid (below_trans HB5.out hB6); clear hB6; obtain ⟨⟨e0, e1, e2, e3⟩, ⟨h0, h1, h2, h3⟩, hlt6⟩ := (FourAt.below (w := wr.drew) HF.out HB6.out).four))
        all_goals
          have HX := Lib.hid ((FourAt.below (w := wr.drew) HF.out HB6.out).set4 (exLev 6))
          have HBX := (((((HB.out.drew.trans (HB6.out.mono hsz)).setCell (p := ⟨L, 0, none⟩) hL (.int .i64 6)).setCell (p := ⟨L, 1, none⟩) hL (.int .i64 0)).setCell (p := ⟨L, 2, none⟩) hL (.int .i64 0)).setCell (p := ⟨L, 3, none⟩) hL (.int .i64 0))
          clear e0 e1 e2 e3 h0 h1 h2 h3 hlt6 d0 d1 d2 d3 g0 g1 g2 g3 hlt5 hP
          go_wp2_with fail
          go_meet
          case rel => exact ⟨rfl, HX.out, HBX⟩
      case rest =>
        obtain ⟨rfl, hX, hBX⟩ := hcut
        have HX := Lib.hid hX
        have HBX := Lib.hid hBX
        clear hX hBX HF HB Hl1 c0' c1' c2' c3' f0 f1 f2 f3 hlt
        go_wp2_with fail
        go_roundw
        case rel => exact ⟨.inr ⟨rfl, HX.out⟩, HBX.out⟩
        case measure => simp [intOf]
    · obtain ⟨⟨c0, c1, c2, c3⟩, ⟨f0, f1, f2, f3⟩, hlt⟩ := hF.four
      have c0' : wr.cell? ⟨L, 0, none⟩ = some (.int .i64 6) := c0
      have c1' : wr.cell? ⟨L, 1, none⟩ = some (.int .i64 0) := c1
      have c2' : wr.cell? ⟨L, 2, none⟩ = some (.int .i64 0) := c2
      have c3' : wr.cell? ⟨L, 3, none⟩ = some (.int .i64 0) := c3
      have Hl1 := Lib.hid (Hl.out.below hB)
      have HF := Lib.hid hF
      have hsz := hB.size
      have HB := Lib.hid hB
      clear hF hB c0 c1 c2 c3
      go_upto_region 11 with fail
      go_cut [10] (fun s10 wx => s10 = .int .i64 0 ∧ Below w.heap.size w wx)
      case first =>
        go_region_with (first
          | (go_at_call 91; refine (most91 a 1 cap _).mono ?_; rintro e w5 ⟨rfl, hP, hB5⟩; obtain ⟨⟨d0, d1, d2, d3⟩, ⟨g0, g1, g2, g3⟩, hlt5⟩ := (FourAt.below (w := wr.drew) HF.out hB5).four; have HB5 := Lib.hid hB5; clear hB5)
          | (go_at_call 90; refine (leaked_ex1 _ _ _ _ (CksAt.below (w := wr.drew) Hl1.out HB5.out) hP).mono ?_; rintro e w6 ⟨rfl, hB6⟩; have HB6 := Lib.hid (below_trans HB5.out hB6); clear hB6; obtain ⟨⟨e0, e1, e2, e3⟩, ⟨h0, h1, h2, h3⟩, hlt6⟩ := (FourAt.below (w := wr.drew) HF.out HB6.out).four))
        all_goals
          have HBX := (((((HB.out.drew.trans (HB6.out.mono hsz)).setCell (p := ⟨L, 0, none⟩) hL (.int .i64 3)).setCell (p := ⟨L, 1, none⟩) hL (.int .i64 0)).setCell (p := ⟨L, 2, none⟩) hL (.int .i64 0)).setCell (p := ⟨L, 3, none⟩) hL (.int .i64 0))
          clear e0 e1 e2 e3 h0 h1 h2 h3 hlt6 d0 d1 d2 d3 g0 g1 g2 g3 hlt5 hP
          go_wp2_with fail
          go_meet
          case rel => exact ⟨rfl, HBX⟩
      case rest =>
        obtain ⟨rfl, hBX⟩ := hcut
        have HBX := Lib.hid hBX
        clear hBX HF HB Hl1 c0' c1' c2' c3' f0 f1 f2 f3 hlt
        go_wp2_with fail
        refine bodyPost_ret (v := .tuple #[.int .i64 0, .int .i64 1, .int .i64 0]) (by simp [results, Try.results84, go_sem]) rfl ⟨rfl, HBX.out⟩

end Go.Proofs.Ythpllmefbhjmmaa
