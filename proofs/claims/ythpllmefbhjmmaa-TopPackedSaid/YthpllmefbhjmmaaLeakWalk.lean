/-
  barrel.leaked, walked: the levels behind a month's leaks, and the first barrel that falls, whatever function tells the leaks.
-/
import Derived.Test.YthpllmefbhjmmaaYardLaw
import Derived.Deep.DeepCutAuto
import Derived.Lib.QuietBelow
import Derived.BigQuiet
namespace Go.Proofs.Ythpllmefbhjmmaa
open Go.RowKit Go.Maps Plain
attribute [local go_sem] Oper.semAt_some

/-- A function of which a month's leaks are asked. -/
abbrev leakFn (F P : Nat) : Value := .func (Fn.func F) #[] #[.pointer (some ⟨P, 0, none⟩)]

set_option maxRecDepth 100000 in
set_option maxHeartbeats 3200000 in
theorem leaked_105 (v : Value) (l : List Ck) (m : Int) (x f : Nat → Int) (P : Nat) (w : World) (hl : CksAt w v l) (hlen : l.length ≤ 4)
    (hcall : ∀ (k : Nat) (W : World), k < l.length → Below w.heap.size w W → Calls Try.prog 105 #[.int .i64 m, .int .i64 k, .pointer (some ⟨P, 0, none⟩)] W fun e w' => e = .returned (.int .i64 (x k)) ∧ W = w')
    (hr : ∀ j, j < l.length → -4611686018427387904 ≤ f j - x j ∧ f j - x j ≤ 4611686018427387904) :
    Calls Try.prog 90 #[v, .agg #[.int .i64 (f 0), .int .i64 (f 1), .int .i64 (f 2), .int .i64 (f 3)], .int .i64 m, .agg #[leakFn 105 P]] w fun e w' =>
      e = .returned (.tuple #[.agg #[.int .i64 (leakF x f l.length 0), .int .i64 (leakF x f l.length 1), .int .i64 (leakF x f l.length 2), .int .i64 (leakF x f l.length 3)], .int .i64 (fallOf l x f l.length)]) ∧ Below w.heap.size w w' := by
  have Hl := Lib.hid hl
  have Hr := Lib.hid hr
  have HC := Lib.hid hcall
  obtain ⟨a, cap, rfl, hm⟩ := hl
  have Hm := Lib.hid hm
  clear hm hr hcall
  go_enter Try.func90, Try.ntmps90
  go_wp2_with fail
  go_loopw [14, 11, 10] (fun i i2 q wr => ∃ k : Nat, k ≤ l.length ∧ i = .int .i64 k ∧ q = .int .i64 (fallOf l x f k) ∧ FourAt wr w.heap.size (leakF x f k) ∧ wr.cell? ⟨w.heap.size + 1, 0, none⟩ = some (leakFn 105 P) ∧ FourAt wr (w.heap.size + 2) (fun _ => 0) ∧ Below w.heap.size w wr) (fun i _ _ _ => l.length - (intOf i).toNat)
  case atStart =>
    refine ⟨0, by omega, rfl, rfl, ?_, by go_simp, ?_, ?_⟩
    · rw [leakF_zero]
      intro j hj
      rcases (by omega : j = 0 ∨ j = 1 ∨ j = 2 ∨ j = 3) with rfl | rfl | rfl | rfl <;> exact ⟨by go_simp, by go_simp⟩
    · intro j hj
      rcases (by omega : j = 0 ∨ j = 1 ∨ j = 2 ∨ j = 3) with rfl | rfl | rfl | rfl <;> exact ⟨by go_simp, by go_simp⟩
    · exact ((below_alloc _).alloc (by simp) _).alloc (by simp; omega) _
  case round =>
    obtain ⟨k, hk, rfl, rfl, hF, hM, hR, hB⟩ := hrel
    by_cases hlt : k < l.length
    · have hk1 : (k : Int) < (l.length : Int) := by omega
      have hk0 : (0 : Int) ≤ (k : Int) := by omega
      have hk4 : (k : Int) < 4 := by omega
      obtain ⟨d0, d1⟩ := hF k (by omega)
      have hln := lineOf_get hlt
      obtain ⟨b, off, rfl, hc⟩ := Hm.out k l[k] (List.getElem?_eq_getElem hlt)
      obtain ⟨c0, c1, c2, c3, c4⟩ := hc.kept (hB.block _ hc.lt)
      have hbl := hc.lt
      rw [← hln] at c2
      rw [leakF_at] at d0
      have Hcall := Lib.hid (HC.out k wr.drew hlt hB.drew)
      have hwr : IntKind.i64.wrap (f k - x k) = f k - x k := by
        have := Hr.out k hlt
        exact IntWalk.i64_in _ (by omega)
      have hF2 : FourAt (wr.setCell ⟨w.heap.size, k, none⟩ (.int .i64 (lvl x f k))) w.heap.size (leakF x f (k + 1)) := by
        rw [leakF_succ]; exact hF.set k _
      have hM2 : (wr.setCell ⟨w.heap.size, k, none⟩ (.int .i64 (lvl x f k))).cell? ⟨w.heap.size + 1, 0, none⟩ = some (leakFn 105 P) :=
        (World.cell?_of_block (a := ⟨w.heap.size + 1, 0, none⟩) (Below.heap_setCell _ _ _ _ (by simp))).trans hM
      have hR2 : FourAt (wr.setCell ⟨w.heap.size, k, none⟩ (.int .i64 (lvl x f k))) (w.heap.size + 2) (fun _ => 0) := hR.kept (Below.heap_setCell _ _ _ _ (by simp))
      have hB2 : Below w.heap.size w (wr.setCell ⟨w.heap.size, k, none⟩ (.int .i64 (lvl x f k))) := hB.setCell (p := ⟨w.heap.size, k, none⟩) (by simp) _
      have hC2 : (wr.setCell ⟨w.heap.size, k, none⟩ (.int .i64 (lvl x f k))).cell? ⟨b, off + k * 5 + 2, none⟩ = some (.int .i64 (lineOf l k)) :=
        (World.cell?_of_block (a := ⟨b, off + k * 5 + 2, none⟩) (Below.heap_setCell _ _ _ _ (by simp; omega))).trans c2
      have hD2 : (wr.setCell ⟨w.heap.size, k, none⟩ (.int .i64 (lvl x f k))).cell? ⟨w.heap.size, k, none⟩ = some (.int .i64 (lvl x f k)) := World.cell?_setCell_same _ _ _ d0
      have HF2 := Lib.hid hF2
      have HM2 := Lib.hid hM2
      have HR2 := Lib.hid hR2
      have HB2 := Lib.hid hB2
      have HC2 := Lib.hid hC2
      have HD2 := Lib.hid hD2
      clear hF hR hF2 hM2 hR2 hB2 hC2 hD2 hbl
      clear hln c0 c1 c2 c3 c4 hc
      go_wp2_with fail
      go_cut [] (fun wx => wx = (wr.setCell ⟨w.heap.size, k, none⟩ (.int .i64 (lvl x f k))).drew)
      case first =>
        go_region_with (go_at_call 105; refine (Hcall.out).mono ?_; rintro e w2 ⟨rfl, rfl⟩)
        all_goals first | (go_meet; case rel => rfl) | (go_wp2_with fail; go_meet; case rel => rfl)
      case rest =>
        subst hcut
        have HF3 : Hid (FourAt (wr.setCell ⟨w.heap.size, k, none⟩ (.int .i64 (lvl x f k))).drew w.heap.size (leakF x f (k + 1))) := HF2.out
        have HR3 : Hid (FourAt (wr.setCell ⟨w.heap.size, k, none⟩ (.int .i64 (lvl x f k))).drew (w.heap.size + 2) (fun _ => 0)) := HR2.out
        have HB3 : Hid (Below w.heap.size w (wr.setCell ⟨w.heap.size, k, none⟩ (.int .i64 (lvl x f k))).drew) := HB2.out.drew
        have hM3 : (wr.setCell ⟨w.heap.size, k, none⟩ (.int .i64 (lvl x f k))).drew.cell? ⟨w.heap.size + 1, 0, none⟩ = some (leakFn 105 P) := HM2.out
        have hC3 : (wr.setCell ⟨w.heap.size, k, none⟩ (.int .i64 (lvl x f k))).drew.cell? ⟨b, off + k * 5 + 2, none⟩ = some (.int .i64 (lineOf l k)) := HC2.out
        have hD3 : (wr.setCell ⟨w.heap.size, k, none⟩ (.int .i64 (lvl x f k))).drew.cell? ⟨w.heap.size, k, none⟩ = some (.int .i64 (lvl x f k)) := HD2.out
        clear HF2 HR2 HB2 HM2 HC2 HD2 d0 d1 hM hB
        generalize (wr.setCell ⟨w.heap.size, k, none⟩ (.int .i64 (lvl x f k))).drew = w5 at *
        have Hst : Hid (fallOf l x f (k + 1) = if lvl x f k < lineOf l k ∧ fallOf l x f k < 0 then (k : Int) else fallOf l x f k) := rfl
        have hq := fallOf_range l x f k
        generalize lvl x f k = g at *
        generalize lineOf l k = ln at *
        generalize fallOf l x f k = q at *
        by_cases hg : g < ln
        · by_cases hq0 : q < 0
          · have Hn : Hid (fallOf l x f (k + 1) = (k : Int)) := by show _ = _; rw [Hst.out, if_pos ⟨hg, hq0⟩]
            clear Hst
            have hgd : decide (g < ln) = true := by simpa using hg
            have hqd : decide (q < 0) = true := by simpa using hq0
            go_wp2_with fail
            go_quiet (fail)
            have HBq := below_drewN HB3.out nq
            have HFq : Hid (FourAt (w5.drewN nq) w.heap.size (leakF x f (k + 1))) := HF3.out
            have HRq : Hid (FourAt (w5.drewN nq) (w.heap.size + 2) (fun _ => 0)) := HR3.out
            have HMq : Hid ((w5.drewN nq).cell? ⟨w.heap.size + 1, 0, none⟩ = some (leakFn 105 P)) := hM3
            clear HB3 HF3 HR3 hM3 hC3 hD3
            go_wp2_with fail
            go_roundw
            case rel => exact ⟨k + 1, by omega, by go_num, by rw [Hn.out], HFq.out, HMq.out, HRq.out, HBq⟩
            case measure => simp [intOf] <;> omega
          · have Hn : Hid (fallOf l x f (k + 1) = q) := by show _ = _; rw [Hst.out, if_neg (fun h => hq0 h.2)]
            clear Hst
            have hgd : decide (g < ln) = true := by simpa using hg
            have hqd : decide (q < 0) = false := by simpa using hq0
            go_wp2_with fail
            go_quiet (fail)
            have HBq := below_drewN HB3.out nq
            have HFq : Hid (FourAt (w5.drewN nq) w.heap.size (leakF x f (k + 1))) := HF3.out
            have HRq : Hid (FourAt (w5.drewN nq) (w.heap.size + 2) (fun _ => 0)) := HR3.out
            have HMq : Hid ((w5.drewN nq).cell? ⟨w.heap.size + 1, 0, none⟩ = some (leakFn 105 P)) := hM3
            clear HB3 HF3 HR3 hM3 hC3 hD3
            go_wp2_with fail
            go_roundw
            case rel => exact ⟨k + 1, by omega, by go_num, by rw [Hn.out], HFq.out, HMq.out, HRq.out, HBq⟩
            case measure => simp [intOf] <;> omega
        · have Hn : Hid (fallOf l x f (k + 1) = q) := by show _ = _; rw [Hst.out, if_neg (fun h => hg h.1)]
          clear Hst
          have hgd : decide (g < ln) = false := by simpa using hg
          go_wp2_with fail
          go_quiet (fail)
          have HBq := below_drewN HB3.out nq
          have HFq : Hid (FourAt (w5.drewN nq) w.heap.size (leakF x f (k + 1))) := HF3.out
          have HRq : Hid (FourAt (w5.drewN nq) (w.heap.size + 2) (fun _ => 0)) := HR3.out
          have HMq : Hid ((w5.drewN nq).cell? ⟨w.heap.size + 1, 0, none⟩ = some (leakFn 105 P)) := hM3
          clear HB3 HF3 HR3 hM3 hC3 hD3
          go_wp2_with fail
          go_roundw
          case rel => exact ⟨k + 1, by omega, by go_num, by rw [Hn.out], HFq.out, HMq.out, HRq.out, HBq⟩
          case measure => simp [intOf] <;> omega
    · obtain rfl : k = l.length := by omega
      obtain ⟨g0, x0⟩ := hF 0 (by omega)
      obtain ⟨g1, x1⟩ := hF 1 (by omega)
      obtain ⟨g2, x2⟩ := hF 2 (by omega)
      obtain ⟨g3, x3⟩ := hF 3 (by omega)
      obtain ⟨r0, s0⟩ := hR 0 (by omega)
      obtain ⟨r1, s1⟩ := hR 1 (by omega)
      obtain ⟨r2, s2⟩ := hR 2 (by omega)
      obtain ⟨r3, s3⟩ := hR 3 (by omega)
      have HB2 := Lib.hid hB
      clear hF hR hB
      go_wp2_with fail
      refine bodyPost_ret (v := .tuple #[.agg #[.int .i64 (leakF x f l.length 0), .int .i64 (leakF x f l.length 1), .int .i64 (leakF x f l.length 2), .int .i64 (leakF x f l.length 3)], .int .i64 (fallOf l x f l.length)]) (by simp [results, Try.results90, go_sem, r0, r1, r2, r3]) rfl ⟨rfl, ?_⟩
      exact (((HB2.out.setCell (by simp; omega) _).setCell (by simp; omega) _).setCell (by simp; omega) _).setCell (by simp; omega) _

set_option maxRecDepth 100000 in
set_option maxHeartbeats 3200000 in
theorem leaked_93 (v : Value) (l : List Ck) (m : Int) (x f : Nat → Int) (P : Nat) (w : World) (hl : CksAt w v l) (hlen : l.length ≤ 4)
    (hcall : ∀ (k : Nat) (W : World), k < l.length → Below w.heap.size w W → Calls Try.prog 93 #[.int .i64 m, .int .i64 k, .pointer (some ⟨P, 0, none⟩)] W fun e w' => e = .returned (.int .i64 (x k)) ∧ W = w')
    (hr : ∀ j, j < l.length → -4611686018427387904 ≤ f j - x j ∧ f j - x j ≤ 4611686018427387904) :
    Calls Try.prog 90 #[v, .agg #[.int .i64 (f 0), .int .i64 (f 1), .int .i64 (f 2), .int .i64 (f 3)], .int .i64 m, .agg #[leakFn 93 P]] w fun e w' =>
      e = .returned (.tuple #[.agg #[.int .i64 (leakF x f l.length 0), .int .i64 (leakF x f l.length 1), .int .i64 (leakF x f l.length 2), .int .i64 (leakF x f l.length 3)], .int .i64 (fallOf l x f l.length)]) ∧ Below w.heap.size w w' := by
  have Hl := Lib.hid hl
  have Hr := Lib.hid hr
  have HC := Lib.hid hcall
  obtain ⟨a, cap, rfl, hm⟩ := hl
  have Hm := Lib.hid hm
  clear hm hr hcall
  go_enter Try.func90, Try.ntmps90
  go_wp2_with fail
  go_loopw [14, 11, 10] (fun i i2 q wr => ∃ k : Nat, k ≤ l.length ∧ i = .int .i64 k ∧ q = .int .i64 (fallOf l x f k) ∧ FourAt wr w.heap.size (leakF x f k) ∧ wr.cell? ⟨w.heap.size + 1, 0, none⟩ = some (leakFn 93 P) ∧ FourAt wr (w.heap.size + 2) (fun _ => 0) ∧ Below w.heap.size w wr) (fun i _ _ _ => l.length - (intOf i).toNat)
  case atStart =>
    refine ⟨0, by omega, rfl, rfl, ?_, by go_simp, ?_, ?_⟩
    · rw [leakF_zero]
      intro j hj
      rcases (by omega : j = 0 ∨ j = 1 ∨ j = 2 ∨ j = 3) with rfl | rfl | rfl | rfl <;> exact ⟨by go_simp, by go_simp⟩
    · intro j hj
      rcases (by omega : j = 0 ∨ j = 1 ∨ j = 2 ∨ j = 3) with rfl | rfl | rfl | rfl <;> exact ⟨by go_simp, by go_simp⟩
    · exact ((below_alloc _).alloc (by simp) _).alloc (by simp; omega) _
  case round =>
    obtain ⟨k, hk, rfl, rfl, hF, hM, hR, hB⟩ := hrel
    by_cases hlt : k < l.length
    · have hk1 : (k : Int) < (l.length : Int) := by omega
      have hk0 : (0 : Int) ≤ (k : Int) := by omega
      have hk4 : (k : Int) < 4 := by omega
      obtain ⟨d0, d1⟩ := hF k (by omega)
      have hln := lineOf_get hlt
      obtain ⟨b, off, rfl, hc⟩ := Hm.out k l[k] (List.getElem?_eq_getElem hlt)
      obtain ⟨c0, c1, c2, c3, c4⟩ := hc.kept (hB.block _ hc.lt)
      have hbl := hc.lt
      rw [← hln] at c2
      rw [leakF_at] at d0
      have Hcall := Lib.hid (HC.out k wr.drew hlt hB.drew)
      have hwr : IntKind.i64.wrap (f k - x k) = f k - x k := by
        have := Hr.out k hlt
        exact IntWalk.i64_in _ (by omega)
      have hF2 : FourAt (wr.setCell ⟨w.heap.size, k, none⟩ (.int .i64 (lvl x f k))) w.heap.size (leakF x f (k + 1)) := by
        rw [leakF_succ]; exact hF.set k _
      have hM2 : (wr.setCell ⟨w.heap.size, k, none⟩ (.int .i64 (lvl x f k))).cell? ⟨w.heap.size + 1, 0, none⟩ = some (leakFn 93 P) :=
        (World.cell?_of_block (a := ⟨w.heap.size + 1, 0, none⟩) (Below.heap_setCell _ _ _ _ (by simp))).trans hM
      have hR2 : FourAt (wr.setCell ⟨w.heap.size, k, none⟩ (.int .i64 (lvl x f k))) (w.heap.size + 2) (fun _ => 0) := hR.kept (Below.heap_setCell _ _ _ _ (by simp))
      have hB2 : Below w.heap.size w (wr.setCell ⟨w.heap.size, k, none⟩ (.int .i64 (lvl x f k))) := hB.setCell (p := ⟨w.heap.size, k, none⟩) (by simp) _
      have hC2 : (wr.setCell ⟨w.heap.size, k, none⟩ (.int .i64 (lvl x f k))).cell? ⟨b, off + k * 5 + 2, none⟩ = some (.int .i64 (lineOf l k)) :=
        (World.cell?_of_block (a := ⟨b, off + k * 5 + 2, none⟩) (Below.heap_setCell _ _ _ _ (by simp; omega))).trans c2
      have hD2 : (wr.setCell ⟨w.heap.size, k, none⟩ (.int .i64 (lvl x f k))).cell? ⟨w.heap.size, k, none⟩ = some (.int .i64 (lvl x f k)) := World.cell?_setCell_same _ _ _ d0
      have HF2 := Lib.hid hF2
      have HM2 := Lib.hid hM2
      have HR2 := Lib.hid hR2
      have HB2 := Lib.hid hB2
      have HC2 := Lib.hid hC2
      have HD2 := Lib.hid hD2
      clear hF hR hF2 hM2 hR2 hB2 hC2 hD2 hbl
      clear hln c0 c1 c2 c3 c4 hc
      go_wp2_with fail
      go_cut [] (fun wx => wx = (wr.setCell ⟨w.heap.size, k, none⟩ (.int .i64 (lvl x f k))).drew)
      case first =>
        go_region_with (go_at_call 93; refine (Hcall.out).mono ?_; rintro e w2 ⟨rfl, rfl⟩)
        all_goals first | (go_meet; case rel => rfl) | (go_wp2_with fail; go_meet; case rel => rfl)
      case rest =>
        subst hcut
        have HF3 : Hid (FourAt (wr.setCell ⟨w.heap.size, k, none⟩ (.int .i64 (lvl x f k))).drew w.heap.size (leakF x f (k + 1))) := HF2.out
        have HR3 : Hid (FourAt (wr.setCell ⟨w.heap.size, k, none⟩ (.int .i64 (lvl x f k))).drew (w.heap.size + 2) (fun _ => 0)) := HR2.out
        have HB3 : Hid (Below w.heap.size w (wr.setCell ⟨w.heap.size, k, none⟩ (.int .i64 (lvl x f k))).drew) := HB2.out.drew
        have hM3 : (wr.setCell ⟨w.heap.size, k, none⟩ (.int .i64 (lvl x f k))).drew.cell? ⟨w.heap.size + 1, 0, none⟩ = some (leakFn 93 P) := HM2.out
        have hC3 : (wr.setCell ⟨w.heap.size, k, none⟩ (.int .i64 (lvl x f k))).drew.cell? ⟨b, off + k * 5 + 2, none⟩ = some (.int .i64 (lineOf l k)) := HC2.out
        have hD3 : (wr.setCell ⟨w.heap.size, k, none⟩ (.int .i64 (lvl x f k))).drew.cell? ⟨w.heap.size, k, none⟩ = some (.int .i64 (lvl x f k)) := HD2.out
        clear HF2 HR2 HB2 HM2 HC2 HD2 d0 d1 hM hB
        generalize (wr.setCell ⟨w.heap.size, k, none⟩ (.int .i64 (lvl x f k))).drew = w5 at *
        have Hst : Hid (fallOf l x f (k + 1) = if lvl x f k < lineOf l k ∧ fallOf l x f k < 0 then (k : Int) else fallOf l x f k) := rfl
        have hq := fallOf_range l x f k
        generalize lvl x f k = g at *
        generalize lineOf l k = ln at *
        generalize fallOf l x f k = q at *
        by_cases hg : g < ln
        · by_cases hq0 : q < 0
          · have Hn : Hid (fallOf l x f (k + 1) = (k : Int)) := by show _ = _; rw [Hst.out, if_pos ⟨hg, hq0⟩]
            clear Hst
            have hgd : decide (g < ln) = true := by simpa using hg
            have hqd : decide (q < 0) = true := by simpa using hq0
            go_wp2_with fail
            go_quiet (fail)
            have HBq := below_drewN HB3.out nq
            have HFq : Hid (FourAt (w5.drewN nq) w.heap.size (leakF x f (k + 1))) := HF3.out
            have HRq : Hid (FourAt (w5.drewN nq) (w.heap.size + 2) (fun _ => 0)) := HR3.out
            have HMq : Hid ((w5.drewN nq).cell? ⟨w.heap.size + 1, 0, none⟩ = some (leakFn 93 P)) := hM3
            clear HB3 HF3 HR3 hM3 hC3 hD3
            go_wp2_with fail
            go_roundw
            case rel => exact ⟨k + 1, by omega, by go_num, by rw [Hn.out], HFq.out, HMq.out, HRq.out, HBq⟩
            case measure => simp [intOf] <;> omega
          · have Hn : Hid (fallOf l x f (k + 1) = q) := by show _ = _; rw [Hst.out, if_neg (fun h => hq0 h.2)]
            clear Hst
            have hgd : decide (g < ln) = true := by simpa using hg
            have hqd : decide (q < 0) = false := by simpa using hq0
            go_wp2_with fail
            go_quiet (fail)
            have HBq := below_drewN HB3.out nq
            have HFq : Hid (FourAt (w5.drewN nq) w.heap.size (leakF x f (k + 1))) := HF3.out
            have HRq : Hid (FourAt (w5.drewN nq) (w.heap.size + 2) (fun _ => 0)) := HR3.out
            have HMq : Hid ((w5.drewN nq).cell? ⟨w.heap.size + 1, 0, none⟩ = some (leakFn 93 P)) := hM3
            clear HB3 HF3 HR3 hM3 hC3 hD3
            go_wp2_with fail
            go_roundw
            case rel => exact ⟨k + 1, by omega, by go_num, by rw [Hn.out], HFq.out, HMq.out, HRq.out, HBq⟩
            case measure => simp [intOf] <;> omega
        · have Hn : Hid (fallOf l x f (k + 1) = q) := by show _ = _; rw [Hst.out, if_neg (fun h => hg h.1)]
          clear Hst
          have hgd : decide (g < ln) = false := by simpa using hg
          go_wp2_with fail
          go_quiet (fail)
          have HBq := below_drewN HB3.out nq
          have HFq : Hid (FourAt (w5.drewN nq) w.heap.size (leakF x f (k + 1))) := HF3.out
          have HRq : Hid (FourAt (w5.drewN nq) (w.heap.size + 2) (fun _ => 0)) := HR3.out
          have HMq : Hid ((w5.drewN nq).cell? ⟨w.heap.size + 1, 0, none⟩ = some (leakFn 93 P)) := hM3
          clear HB3 HF3 HR3 hM3 hC3 hD3
          go_wp2_with fail
          go_roundw
          case rel => exact ⟨k + 1, by omega, by go_num, by rw [Hn.out], HFq.out, HMq.out, HRq.out, HBq⟩
          case measure => simp [intOf] <;> omega
    · obtain rfl : k = l.length := by omega
      obtain ⟨g0, x0⟩ := hF 0 (by omega)
      obtain ⟨g1, x1⟩ := hF 1 (by omega)
      obtain ⟨g2, x2⟩ := hF 2 (by omega)
      obtain ⟨g3, x3⟩ := hF 3 (by omega)
      obtain ⟨r0, s0⟩ := hR 0 (by omega)
      obtain ⟨r1, s1⟩ := hR 1 (by omega)
      obtain ⟨r2, s2⟩ := hR 2 (by omega)
      obtain ⟨r3, s3⟩ := hR 3 (by omega)
      have HB2 := Lib.hid hB
      clear hF hR hB
      go_wp2_with fail
      refine bodyPost_ret (v := .tuple #[.agg #[.int .i64 (leakF x f l.length 0), .int .i64 (leakF x f l.length 1), .int .i64 (leakF x f l.length 2), .int .i64 (leakF x f l.length 3)], .int .i64 (fallOf l x f l.length)]) (by simp [results, Try.results90, go_sem, r0, r1, r2, r3]) rfl ⟨rfl, ?_⟩
      exact (((HB2.out.setCell (by simp; omega) _).setCell (by simp; omega) _).setCell (by simp; omega) _).setCell (by simp; omega) _

end Go.Proofs.Ythpllmefbhjmmaa
