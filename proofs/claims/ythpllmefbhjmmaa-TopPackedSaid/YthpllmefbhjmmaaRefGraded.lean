/-
  The reference's 'Grade' answers as the program's does.
-/
import Derived.Test.YthpllmefbhjmmaaRefMarks
namespace Go.Proofs.Ythpllmefbhjmmaa
open Go.RowKit Go.Maps Plain
attribute [local go_sem] Oper.semAt_some

theorem clamp_eq (b : Int) (s : Sp) (h : s.lo ≤ s.hi) : (clamp b s == b) = inB b s.lo s.hi := by
  unfold clamp inB
  rw [Bool.eq_iff_iff]
  simp only [beq_iff_eq, Bool.and_eq_true, decide_eq_true_eq]
  omega

theorem markB_le {m : Mk} (h : markB m = true) : m.s0.lo ≤ m.s0.hi ∧ m.s1.lo ≤ m.s1.hi ∧ m.s2.lo ≤ m.s2.hi ∧ m.s3.lo ≤ m.s3.hi := by
  simp only [markB, spanB, Bool.and_eq_true, decide_eq_true_eq] at h
  omega

theorem below_reach {m : Mk} (h : markB m = true) (x : Br) : belowB m x = !reachB m x := by
  obtain ⟨h0, h1, h2, h3⟩ := markB_le h
  unfold belowB reachB
  rw [clamp_eq _ _ h0, clamp_eq _ _ h1, clamp_eq _ _ h2, clamp_eq _ _ h3]

def GrS (w0 : World) (b off L : Nat) (m : Mk) (x : Br) (w' : World) : Prop :=
  w'.cell? ⟨b, off, none⟩ = some (.int .i64 m.s0.lo) ∧ w'.cell? ⟨b, off + 1, none⟩ = some (.int .i64 m.s0.hi) ∧ w'.cell? ⟨b, off + 2, none⟩ = some (.int .i64 m.s1.lo) ∧ w'.cell? ⟨b, off + 3, none⟩ = some (.int .i64 m.s1.hi) ∧
    w'.cell? ⟨b, off + 4, none⟩ = some (.int .i64 m.s2.lo) ∧ w'.cell? ⟨b, off + 5, none⟩ = some (.int .i64 m.s2.hi) ∧ w'.cell? ⟨b, off + 6, none⟩ = some (.int .i64 m.s3.lo) ∧ w'.cell? ⟨b, off + 7, none⟩ = some (.int .i64 m.s3.hi) ∧
    w'.cell? ⟨L, 0, none⟩ = some (.int .i64 x.b0) ∧ w'.cell? ⟨L, 1, none⟩ = some (.int .i64 x.b1) ∧ w'.cell? ⟨L, 2, none⟩ = some (.int .i64 x.b2) ∧ w'.cell? ⟨L, 3, none⟩ = some (.int .i64 x.b3) ∧ Below w0.heap.size w0 w'

theorem GrS.mk {w0 w' : World} {b off L : Nat} {m : Mk} {x : Br} (hm : MkAt w' b off m) (hx : BrAt w' L 0 x) (hB : Below w0.heap.size w0 w') : GrS w0 b off L m x w' := by
  obtain ⟨c0, c1, c2, c3, c4, c5, c6, c7⟩ := hm
  obtain ⟨x0, x1, x2, x3⟩ := hx
  exact ⟨c0, c1, c2, c3, c4, c5, c6, c7, x0, by simpa using x1, by simpa using x2, by simpa using x3, hB⟩
theorem GrS.lt {w0 w' : World} {b off L : Nat} {m : Mk} {x : Br} (h : GrS w0 b off L m x w') : b < w'.heap.size ∧ L < w'.heap.size :=
  ⟨World.block_lt_of_cell? _ _ h.1, World.block_lt_of_cell? _ _ h.2.2.2.2.2.2.2.2.1⟩
theorem GrS.below {w0 w' w2 : World} {b off L : Nat} {m : Mk} {x : Br} (h : GrS w0 b off L m x w') (hB : Below w'.heap.size w' w2) : GrS w0 b off L m x w2 := by
  obtain ⟨l0, l1⟩ := h.lt
  obtain ⟨c0, c1, c2, c3, c4, c5, c6, c7, x0, x1, x2, x3, hb⟩ := h
  have k : ∀ i, w2.cell? ⟨b, i, none⟩ = w'.cell? ⟨b, i, none⟩ := fun i => World.cell?_of_block (a := ⟨b, i, none⟩) (hB.block b l0)
  have k' : ∀ i, w2.cell? ⟨L, i, none⟩ = w'.cell? ⟨L, i, none⟩ := fun i => World.cell?_of_block (a := ⟨L, i, none⟩) (hB.block L l1)
  exact ⟨(k _).trans c0, (k _).trans c1, (k _).trans c2, (k _).trans c3, (k _).trans c4, (k _).trans c5, (k _).trans c6, (k _).trans c7, (k' _).trans x0, (k' _).trans x1, (k' _).trans x2, (k' _).trans x3, below_trans hb hB⟩
theorem GrS.drew {w0 w' : World} {b off L : Nat} {m : Mk} {x : Br} (h : GrS w0 b off L m x w') : GrS w0 b off L m x w'.drew := by
  obtain ⟨c0, c1, c2, c3, c4, c5, c6, c7, x0, x1, x2, x3, hb⟩ := h
  exact ⟨c0, c1, c2, c3, c4, c5, c6, c7, x0, x1, x2, x3, hb.drew⟩

set_option maxRecDepth 100000 in
set_option maxHeartbeats 1600000 in
theorem gradeRef_any (v : Value) (ms : List Mk) (x : Br) (w : World) (hms : MarksAt w v ms) (hlen : ms.length ≤ 140737488351232) :
    Calls Try.prog 20 #[v, brV x] w fun e w' => e = .returned (gradeV (gradeR ms x)) ∧ Below w.heap.size w w' := by
  have hB0 := below_alloc (w := w) (.cells #[.int .i64 x.b0, .int .i64 x.b1, .int .i64 x.b2, .int .i64 x.b3] 24)
  have hX0 : BrAt (w.alloc (.cells #[.int .i64 x.b0, .int .i64 x.b1, .int .i64 x.b2, .int .i64 x.b3] 24)) w.heap.size 0 x := by unfold BrAt; go_simp
  have hms0 := hms.below hB0
  cases h1 : marksB ms with
  | false =>
    have He : Hid (gradeR ms x = (0, 70)) := by show _ = _; unfold gradeR; rw [h1, if_neg (by simp)]
    have H1 := Lib.hid h1
    have Hms0 := Lib.hid hms0
    clear h1 hms0 hms
    go_enter Try.func20, Try.ntmps20
    go_wp2_with fail
    refine (marksR_is v ms _ Hms0.out hlen H1.out).mono ?_
    rintro e w1 ⟨rfl, hB1⟩
    have hB2 := below_trans hB0 hB1
    clear hB0 hB1
    go_wp2_with fail
    go_ret2
    exact ⟨by rw [He.out]; rfl, hB2⟩
  | true =>
  cases h2 : barB x with
  | false =>
    have He : Hid (gradeR ms x = (0, 73)) := by show _ = _; unfold gradeR; rw [h1, h2, if_pos rfl, if_neg (by simp)]
    have H1 := Lib.hid h1
    have H2 := Lib.hid h2
    have Hms0 := Lib.hid hms0
    clear h1 h2 hms0 hms
    go_enter Try.func20, Try.ntmps20
    go_wp2_with fail
    refine (marksR_is v ms _ Hms0.out hlen H1.out).mono ?_
    rintro e w1 ⟨rfl, hB1⟩
    have hB2 := below_trans hB0 hB1
    obtain ⟨x0, x1, x2, x3⟩ := hX0.kept (hB1.block w.heap.size (by simp))
    clear hB0 hB1
    go_wp2_with fail
    refine (barrelR_is x _ H2.out).mono ?_
    rintro e w2 ⟨rfl, hB3⟩
    have hB4 := below_trans hB2 hB3
    clear hB2 hB3
    go_wp2_with fail
    go_ret2
    exact ⟨by rw [He.out]; rfl, hB4⟩
  | true =>
    have He : Hid (gradeR ms x = match firstOf ms x with | some i => ((i : Int), 0) | none => (0, 4)) := by show _ = _; unfold gradeR; rw [h1, h2, if_pos rfl, if_pos rfl]; rfl
    have Hall : Hid (∀ m ∈ ms, markB m = true) := by
      show ∀ m ∈ ms, _
      intro m hm
      unfold marksB at h1
      rw [Bool.and_eq_true] at h1
      exact List.all_eq_true.1 h1.2 m hm
    have H1 := Lib.hid h1
    have H2 := Lib.hid h2
    have Hms0 := Lib.hid hms0
    clear h1 h2 hms0
    go_enter Try.func20, Try.ntmps20
    go_wp2_with fail
    refine (marksR_is v ms _ Hms0.out hlen H1.out).mono ?_
    rintro e w1 ⟨rfl, hB1⟩
    have hB2 := below_trans hB0 hB1
    have hX1 := hX0.kept (hB1.block w.heap.size (by simp))
    have hX1' := hX1
    obtain ⟨x0, x1, x2, x3⟩ := hX1'
    clear hB0 hB1
    go_wp2_with fail
    refine (barrelR_is x _ H2.out).mono ?_
    rintro e w2 ⟨rfl, hB3⟩
    have hB4 := below_trans hB2 hB3
    have hX2 := hX1.kept (hB3.block w.heap.size hX1.lt)
    clear hB2 hB3 x0 x1 x2 x3 hX1 hX0
    obtain ⟨a, cap, rfl, hm⟩ := hms.below hB4
    have Hm := Lib.hid hm
    clear hm hms
    go_wp2_with fail
    go_loopw [6] (fun i wr => ∃ k : Nat, k ≤ ms.length ∧ i = .int .i64 k ∧ Hid (∀ i m, i < k → ms[i]? = some m → belowB m x = true) ∧ Below w2.heap.size w2 wr) (fun i _ => (ms.length - (intOf i).toNat))
    case atStart => exact ⟨0, by omega, rfl, fun i m hi => by omega, Below.refl _ _⟩
    case round =>
      obtain ⟨k, hk, rfl, hall, hB⟩ := hrel
      by_cases hlt : k < ms.length
      · have hk1 : (k : Int) < (ms.length : Int) := by omega
        have hk0 : (0 : Int) ≤ (k : Int) := by omega
        obtain ⟨b, off, rfl, hc⟩ := Hm.out k ms[k] (by simp [hlt])
        have hc1 := hc.kept (hB.block b hc.lt)
        have hX3 := hX2.kept (hB.block w.heap.size hX2.lt)
        have Hfs := Lib.hid (fun h => firstOf_some (x := x) hlt h hall)
        have Hbr := Lib.hid (below_reach (Hall.out ms[k] (by simp)) x)
        have Hnx : Hid (belowB ms[k] x = true → ∀ i m, i < k + 1 → ms[i]? = some m → belowB m x = true) := fun h i m hi hm => by
          by_cases e : i = k
          · subst e; rw [List.getElem?_eq_getElem hlt] at hm; cases hm; exact h
          · exact hall.out i m (by omega) hm
        generalize ms[k] = m at hc1 Hfs Hnx Hbr
        have hS := GrS.mk hc1 hX3 (Below.refl wr.heap.size wr)
        have HS := Lib.hid hS
        have hbl := hS.lt.1
        have hxl := hS.lt.2
        obtain ⟨q, hq⟩ : ∃ q, reachB m x = q := ⟨_, rfl⟩
        have Hq := Lib.hid hq
        clear hc hq hS hc1 hX3
        go_wp2_with fail
        go_region_held3 (fun w' => w'.cell? ⟨b, off + k * 8, none⟩ = some (.int .i64 m.s0.lo) ∧ w'.cell? ⟨b, off + k * 8 + 1, none⟩ = some (.int .i64 m.s0.hi) ∧ w'.cell? ⟨b, off + k * 8 + 2, none⟩ = some (.int .i64 m.s1.lo) ∧ w'.cell? ⟨b, off + k * 8 + 3, none⟩ = some (.int .i64 m.s1.hi) ∧
            w'.cell? ⟨b, off + k * 8 + 4, none⟩ = some (.int .i64 m.s2.lo) ∧ w'.cell? ⟨b, off + k * 8 + 5, none⟩ = some (.int .i64 m.s2.hi) ∧ w'.cell? ⟨b, off + k * 8 + 6, none⟩ = some (.int .i64 m.s3.lo) ∧ w'.cell? ⟨b, off + k * 8 + 7, none⟩ = some (.int .i64 m.s3.hi) ∧
            w'.cell? ⟨w.heap.size, 0, none⟩ = some (.int .i64 x.b0) ∧ w'.cell? ⟨w.heap.size, 1, none⟩ = some (.int .i64 x.b1) ∧ w'.cell? ⟨w.heap.size, 2, none⟩ = some (.int .i64 x.b2) ∧ w'.cell? ⟨w.heap.size, 3, none⟩ = some (.int .i64 x.b3) ∧ Below wr.heap.size wr w')
          (first | exact HS.out.drew | exact GrS.below (by assumption) hB3)
          (first | (go_at_call 60; refine (reaches_is m x _ Hq.out).mono ?_; rintro e w3 ⟨rfl, hB3⟩))
        have hS : GrS wr b (off + k * 8) w.heap.size m x w3 := by assumption
        have hB5 := below_trans hB hS.2.2.2.2.2.2.2.2.2.2.2.2
        clear hB3 hB hS
        cases q with
        | true =>
          have He2 : Hid (gradeR ms x = ((k : Int), 0)) := by show _ = _; rw [He.out, Hfs.out (by rw [Hbr.out, Hq.out]; rfl)]
          have Hfin := Lib.hid (below_trans hB4 hB5)
          clear hB5 hB4
          go_wp2_with fail
          go_ret2
          exact ⟨by rw [He2.out]; rfl, Hfin.out⟩
        | false =>
          have Hn := Lib.hid (Hnx.out (by rw [Hbr.out, Hq.out]; rfl))
          clear Hnx
          go_wp2_with fail
          go_roundw
          case rel => exact ⟨k + 1, by omega, by go_num, Hn.out, hB5⟩
          case measure => simp [intOf]; omega
      · obtain rfl : k = ms.length := by omega
        have He2 : Hid (gradeR ms x = (0, 4)) := by show _ = _; rw [He.out, firstOf_none hall]
        have Hfin := Lib.hid (below_trans hB4 hB)
        clear hB hB4
        go_wp2_with fail
        go_ret2
        exact ⟨by rw [He2.out]; rfl, Hfin.out⟩

theorem gradeRef_ex {z : Int × Int} (v : Value) (ms : List Mk) (x : Br) (w : World) (hms : MarksAt w v ms) (hlen : ms.length ≤ 140737488351232) (h : gradeR ms x = z) :
    Calls Try.prog 20 #[v, brV x] w fun e w' => e = .returned (gradeV z) ∧ Below w.heap.size w w' := by
  rw [← h]; exact gradeRef_any v ms x w hms hlen

end Go.Proofs.Ythpllmefbhjmmaa
