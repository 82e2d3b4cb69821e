/-
  'Grade'.
-/
import Derived.Test.YthpllmefbhjmmaaMarks
namespace Go.Proofs.Ythpllmefbhjmmaa
open Go.RowKit Go.Maps Plain

/-- The first brand that a barrel reaches. -/
def firstOf (ms : List Mk) (x : Br) : Option Nat := ms.findIdx? fun m => !belowB m x
/-- What 'Grade' answers. -/
def gradeR (ms : List Mk) (x : Br) : Int × Int :=
  if marksB ms = true then
    if barB x = true then
      match firstOf ms x with
      | some i => ((i : Int), 0)
      | none => (0, 4)
    else (0, 73)
  else (0, 70)

abbrev gradeV (x : Int × Int) : Value := .tuple #[.int .i64 x.1, .int .i64 x.2]

theorem firstOf_some {ms : List Mk} {x : Br} {k : Nat} (hk : k < ms.length) (h : belowB ms[k] x = false) (hall : ∀ i m, i < k → ms[i]? = some m → belowB m x = true) : firstOf ms x = some k := by
  unfold firstOf
  rw [List.findIdx?_eq_some_iff_getElem]
  exact ⟨hk, by simp [h], fun j hj => by simp [hall j ms[j] hj (by simp [show j < ms.length by omega])]⟩
theorem firstOf_none {ms : List Mk} {x : Br} (hall : ∀ i m, i < ms.length → ms[i]? = some m → belowB m x = true) : firstOf ms x = none := by
  unfold firstOf
  rw [List.findIdx?_eq_none_iff]
  intro m hm
  obtain ⟨i, hi, rfl⟩ := List.getElem_of_mem hm
  simp [hall i ms[i] hi (by simp [hi])]

/-- A block of four cells reads as a barrel. -/
def BrAt (w : World) (b off : Nat) (x : Br) : Prop :=
  w.cell? ⟨b, off, none⟩ = some (.int .i64 x.b0) ∧ w.cell? ⟨b, off + 1, none⟩ = some (.int .i64 x.b1) ∧ w.cell? ⟨b, off + 2, none⟩ = some (.int .i64 x.b2) ∧ w.cell? ⟨b, off + 3, none⟩ = some (.int .i64 x.b3)
theorem BrAt.kept {w w' : World} {b off : Nat} {x : Br} (h : BrAt w b off x) (hb : w'.heap[b]? = w.heap[b]?) : BrAt w' b off x := by
  have k : ∀ i, w'.cell? ⟨b, i, none⟩ = w.cell? ⟨b, i, none⟩ := fun i => World.cell?_of_block (a := ⟨b, i, none⟩) hb
  obtain ⟨h0, h1, h2, h3⟩ := h
  exact ⟨(k _).trans h0, (k _).trans h1, (k _).trans h2, (k _).trans h3⟩
theorem BrAt.lt {w : World} {b off : Nat} {x : Br} (h : BrAt w b off x) : b < w.heap.size := World.block_lt_of_cell? w _ h.1

set_option maxRecDepth 100000 in
set_option maxHeartbeats 1600000 in
theorem grade_any (v : Value) (ms : List Mk) (x : Br) (w : World) (hms : MarksAt w v ms) (hlen : ms.length ≤ 140737488351232) :
    Calls Try.prog 19 #[v, brV x] w fun e w' => e = .returned (gradeV (gradeR ms x)) ∧ Below w.heap.size w w' := by
  have hB0 := below_alloc (w := w) (.cells #[.int .i64 x.b0, .int .i64 x.b1, .int .i64 x.b2, .int .i64 x.b3] 24)
  have hX0 : BrAt (w.alloc (.cells #[.int .i64 x.b0, .int .i64 x.b1, .int .i64 x.b2, .int .i64 x.b3] 24)) w.heap.size 0 x := by unfold BrAt; go_simp
  have hms0 := hms.below hB0
  cases h1 : marksB ms with
  | false =>
    have He : Hid (gradeR ms x = (0, 70)) := by show _ = _; unfold gradeR; rw [h1, if_neg (by simp)]
    have H1 := Lib.hid h1
    have Hms0 := Lib.hid hms0
    clear h1 hms0 hms
    go_enter Try.func19, Try.ntmps19
    go_wp2_with fail
    refine (areMarks_is v ms _ Hms0.out hlen H1.out).mono ?_
    rintro e w1 ⟨rfl, hB1⟩
    have hB2 := below_trans hB0 hB1
    clear hB0 hB1
    go_wp2_with fail
    go_ret2
    exact ⟨by rw [He.out]; rfl, hB2⟩
  | true =>
  cases h2 : barB x with
  | false =>
    have He : Hid (gradeR ms x = (0, 73)) := by show _ = _; unfold gradeR; rw [h1, h2, if_pos rfl, if_neg (by simp)]
    have H1 := Lib.hid h1
    have H2 := Lib.hid h2
    have Hms0 := Lib.hid hms0
    clear h1 h2 hms0 hms
    go_enter Try.func19, Try.ntmps19
    go_wp2_with fail
    refine (areMarks_is v ms _ Hms0.out hlen H1.out).mono ?_
    rintro e w1 ⟨rfl, hB1⟩
    have hB2 := below_trans hB0 hB1
    obtain ⟨x0, x1, x2, x3⟩ := hX0.kept (hB1.block w.heap.size (by simp))
    clear hB0 hB1
    go_wp2_with fail
    refine (isBarrel_is x _ H2.out).mono ?_
    rintro e w2 ⟨rfl, hB3⟩
    have hB4 := below_trans hB2 hB3
    clear hB2 hB3
    go_wp2_with fail
    go_ret2
    exact ⟨by rw [He.out]; rfl, hB4⟩
  | true =>
    have He : Hid (gradeR ms x = match firstOf ms x with | some i => ((i : Int), 0) | none => (0, 4)) := by show _ = _; unfold gradeR; rw [h1, h2, if_pos rfl, if_pos rfl]
    have H1 := Lib.hid h1
    have H2 := Lib.hid h2
    have Hms0 := Lib.hid hms0
    clear h1 h2 hms0
    go_enter Try.func19, Try.ntmps19
    go_wp2_with fail
    refine (areMarks_is v ms _ Hms0.out hlen H1.out).mono ?_
    rintro e w1 ⟨rfl, hB1⟩
    have hB2 := below_trans hB0 hB1
    have hX1 := hX0.kept (hB1.block w.heap.size (by simp))
    have hX1' := hX1
    obtain ⟨x0, x1, x2, x3⟩ := hX1'
    clear hB0 hB1
    go_wp2_with fail
    refine (isBarrel_is x _ H2.out).mono ?_
    rintro e w2 ⟨rfl, hB3⟩
    have hB4 := below_trans hB2 hB3
    have hX2 := hX1.kept (hB3.block w.heap.size hX1.lt)
    clear hB2 hB3 x0 x1 x2 x3 hX1 hX0
    obtain ⟨a, cap, rfl, hm⟩ := hms.below hB4
    have Hm := Lib.hid hm
    clear hm hms
    go_wp2_with fail
    go_loopw [19] (fun i wr => ∃ k : Nat, k ≤ ms.length ∧ i = .int .i64 k ∧ Hid (∀ i m, i < k → ms[i]? = some m → belowB m x = true) ∧ Below w2.heap.size w2 wr) (fun i _ => (ms.length - (intOf i).toNat))
    case atStart => exact ⟨0, by omega, rfl, fun i m hi => by omega, Below.refl _ _⟩
    case round =>
      obtain ⟨k, hk, rfl, hall, hB⟩ := hrel
      by_cases hlt : k < ms.length
      · have hk1 : (k : Int) < (ms.length : Int) := by omega
        have hk0 : (0 : Int) ≤ (k : Int) := by omega
        obtain ⟨b, off, rfl, hc⟩ := Hm.out k ms[k] (by simp [hlt])
        have hc1 := hc.kept (hB.block b hc.lt)
        have hbl := hc1.lt
        have hX3 := hX2.kept (hB.block w.heap.size hX2.lt)
        have hxl := hX3.lt
        have Hfs := Lib.hid (fun h => firstOf_some (x := x) hlt h hall)
        have Hnx : Hid (belowB ms[k] x = true → ∀ i m, i < k + 1 → ms[i]? = some m → belowB m x = true) := fun h i m hi hm => by
          by_cases e : i = k
          · subst e; rw [List.getElem?_eq_getElem hlt] at hm; cases hm; exact h
          · exact hall.out i m (by omega) hm
        generalize ms[k] = m at hc1 Hfs Hnx
        obtain ⟨c0, c1, c2, c3, c4, c5, c6, c7⟩ := hc1
        obtain ⟨x0, x1, x2, x3⟩ := hX3
        obtain ⟨q, hq⟩ : ∃ q, belowB m x = q := ⟨_, rfl⟩
        have Hq := Lib.hid hq
        clear hc hq
        go_wp2_with fail
        refine (isBelow_is m x _ Hq.out).mono ?_
        rintro e w3 ⟨rfl, hB3⟩
        have hB5 := hB.trans (((below_alloc (w := wr) (.cells #[.int .i64 m.s0.lo, .int .i64 m.s0.hi, .int .i64 m.s1.lo, .int .i64 m.s1.hi, .int .i64 m.s2.lo, .int .i64 m.s2.hi, .int .i64 m.s3.lo, .int .i64 m.s3.hi] 62)).mono hB.size).trans (hB3.mono (by have := hB.size; simp; omega)))
        clear hB3 hB
        cases q with
        | false =>
          have He2 : Hid (gradeR ms x = ((k : Int), 0)) := by show _ = _; rw [He.out, Hfs.out Hq.out]
          have Hfin := Lib.hid (below_trans hB4 hB5)
          clear hB5 hB4
          go_wp2_with fail
          go_ret2
          exact ⟨by rw [He2.out]; rfl, Hfin.out⟩
        | true =>
          have Hn := Lib.hid (Hnx.out Hq.out)
          clear Hnx
          go_wp2_with fail
          go_roundw
          case rel => exact ⟨k + 1, by omega, by go_num, Hn.out, hB5⟩
          case measure => simp [intOf]; omega
      · obtain rfl : k = ms.length := by omega
        have He2 : Hid (gradeR ms x = (0, 4)) := by show _ = _; rw [He.out, firstOf_none hall]
        have Hfin := Lib.hid (below_trans hB4 hB)
        clear hB hB4
        go_wp2_with fail
        go_ret2
        exact ⟨by rw [He2.out]; rfl, Hfin.out⟩

end Go.Proofs.Ythpllmefbhjmmaa
