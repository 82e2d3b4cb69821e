/-
  The reference: lists of brands; 'Grade' answers as the program does.
-/
import Derived.Test.YthpllmefbhjmmaaRefGrade
namespace Go.Proofs.Ythpllmefbhjmmaa
open Go.RowKit Go.Maps Plain

theorem spansTo_mono {m : Mk} {j k : Nat} (h : spansTo m j = false) (hk : j ≤ k) : spansTo m k = false := by
  unfold spansTo at *
  rw [List.all_eq_false] at *
  obtain ⟨i, hi, hs⟩ := h
  exact ⟨i, by simp at *; omega, hs⟩

theorem MkAt.at {w : World} {b off : Nat} {m : Mk} (h : MkAt w b off m) (j : Nat) (hj : j < 4) : w.cell? ⟨b, off + j * 2, none⟩ = some (.int .i64 (m.at j).lo) ∧ w.cell? ⟨b, off + j * 2 + 1, none⟩ = some (.int .i64 (m.at j).hi) := by
  obtain ⟨h0, h1, h2, h3, h4, h5, h6, h7⟩ := h
  obtain rfl | rfl | rfl | rfl : j = 0 ∨ j = 1 ∨ j = 2 ∨ j = 3 := by omega
  · exact ⟨h0, h1⟩
  · exact ⟨h2, h3⟩
  · exact ⟨h4, h5⟩
  · exact ⟨h6, h7⟩

set_option maxRecDepth 100000 in
set_option maxHeartbeats 1600000 in
theorem marksR_any (v : Value) (ms : List Mk) (w : World) (hms : MarksAt w v ms) (hlen : ms.length ≤ 140737488351232) :
    Calls Try.prog 58 #[v] w fun e w' => e = .returned (.bool (marksB ms)) ∧ Below w.heap.size w w' := by
  obtain ⟨a, cap, rfl, hm⟩ := hms
  have Hm := Lib.hid hm
  clear hm
  go_enter Try.func58, Try.ntmps58
  go_wp2_with fail
  refine (in_any _ _ _ _).mono ?_
  rintro e w1 ⟨rfl, rfl⟩
  generalize hq : inB (ms.length : Int) 1 5 = q0
  have Hq := Lib.hid hq
  clear hq
  go_wp2_with fail
  go_loopw [3, 4] (fun ok i wr => ∃ k : Nat, k ≤ ms.length ∧ i = .int .i64 k ∧ ok = .bool (q0 && (ms.take k).all markB) ∧ Below w.heap.size w wr) (fun _ i _ => (ms.length - (intOf i).toNat))
  case atStart => exact ⟨0, by omega, rfl, by simp, Below.refl _ _⟩
  case round =>
    obtain ⟨k, hk, rfl, rfl, hB⟩ := hrel
    obtain ⟨q1, hq1⟩ : ∃ q, (q0 && (ms.take k).all markB) = q := ⟨_, rfl⟩
    have Hq1 := Lib.hid hq1
    rw [hq1]
    clear hq1
    cases q1 with
    | false =>
      have He : Hid (marksB ms = false) := by
        show marksB ms = _
        rw [marksB, Hq.out]
        have h := Hq1.out
        rw [Bool.and_eq_false_iff] at h ⊢
        rcases h with h | h
        · exact .inl h
        · refine .inr ?_
          rw [List.all_eq_false] at h ⊢
          obtain ⟨x, hx, hs⟩ := h
          exact ⟨x, List.mem_of_mem_take hx, hs⟩
      have hd : decide ((k : Int) < (ms.length : Int)) = decide ((k : Int) < (ms.length : Int)) := rfl
      go_wp2_with fail
      go_ret
      exact ⟨by rw [He.out]; rfl, hB⟩
    | true =>
    by_cases hlt : k < ms.length
    · have hk1 : (k : Int) < (ms.length : Int) := by omega
      have hk0 : (0 : Int) ≤ (k : Int) := by omega
      obtain ⟨b, off, rfl, hc⟩ := Hm.out k ms[k] (by simp [hlt])
      have Hs : Hid ((q0 && (ms.take (k + 1)).all markB) = (true && spansTo ms[k] 4)) := by
        show _ = _
        rw [spansTo_four, ← Hq1.out, List.take_succ_eq_append_getElem hlt, List.all_append, Bool.and_assoc]
        simp
      generalize ms[k] = m at hc Hs
      have Hc := Lib.hid hc
      clear hc
      go_wp2_with fail
      go_loopw [3, 5] (fun ok i wb => ∃ j : Nat, j ≤ 4 ∧ i = .int .i64 j ∧ ok = .bool (spansTo m j) ∧ Below w.heap.size w wb) (fun _ i _ => (4 - (intOf i).toNat))
      case atStart => exact ⟨0, by omega, rfl, by simp [spansTo], hB⟩
      case round =>
        clear hB
        obtain ⟨j, hj, rfl, rfl, hBr⟩ := hrel
        obtain ⟨q2, hq2⟩ : ∃ q, spansTo m j = q := ⟨_, rfl⟩
        have Hq2 := Lib.hid hq2
        rw [hq2]
        clear hq2
        cases q2 with
        | false =>
          have He : Hid ((q0 && (ms.take (k + 1)).all markB) = false) := by show _ = _; rw [Hs.out, spansTo_mono Hq2.out hj]; rfl
          go_wp2_with fail
          go_roundw
          case rel => exact ⟨k + 1, by omega, by go_num, by rw [He.out], hBr⟩
          case measure => simp [intOf]; omega
        | true =>
        by_cases hjl : j < 4
        · have hj1 : (j : Int) < 4 := by omega
          have hj0 : (0 : Int) ≤ (j : Int) := by omega
          obtain ⟨c0, c1⟩ := (Hc.out.kept (hBr.block b Hc.out.lt)).at j hjl
          have hbl : b < wr.heap.size := World.block_lt_of_cell? _ _ c0
          have Hn : Hid (spansTo m (j + 1) = spanB (m.at j)) := by show _ = _; rw [spansTo_succ, Hq2.out]; rfl
          generalize m.at j = s at c0 c1 Hn
          obtain ⟨q4, h4⟩ : ∃ q, inB s.lo 0 1000 = q := ⟨_, rfl⟩
          obtain ⟨q5, h5⟩ : ∃ q, inB s.hi s.lo 1000 = q := ⟨_, rfl⟩
          have He : Hid (spansTo m (j + 1) = (q4 && q5)) := by show _ = _; rw [Hn.out, spanB_eq, h4, h5]
          have H4 := Lib.hid h4
          have H5 := Lib.hid h5
          clear h4 h5
          go_wp2_with fail
          refine (spanned_is s 0 1000 _ H4.out H5.out).mono ?_
          rintro e w3 ⟨rfl, hB3⟩
          have hB4 := below_trans hBr hB3
          clear hBr hB3
          go_wp2_with fail
          go_roundw
          case rel => exact ⟨j + 1, by omega, by go_num, by rw [He.out], hB4⟩
          case measure => simp [intOf]; omega
        · obtain rfl : j = 4 := by omega
          have He : Hid ((q0 && (ms.take (k + 1)).all markB) = true) := by show _ = _; rw [Hs.out, Hq2.out]; rfl
          go_wp2_with fail
          go_roundw
          case rel => exact ⟨k + 1, by omega, by go_num, by rw [He.out], hBr⟩
          case measure => simp [intOf]; omega
    · have He : Hid (marksB ms = true) := by
        show marksB ms = _
        rw [marksB, Hq.out, ← Hq1.out, List.take_of_length_le (by omega)]
      go_wp2_with fail
      go_ret
      exact ⟨by rw [He.out]; rfl, hB⟩

theorem marksR_is {q : Bool} (v : Value) (ms : List Mk) (w : World) (hms : MarksAt w v ms) (hlen : ms.length ≤ 140737488351232) (h : marksB ms = q) :
    Calls Try.prog 58 #[v] w fun e w' => e = .returned (.bool q) ∧ Below w.heap.size w w' := by
  rw [← h]; exact marksR_any v ms w hms hlen

end Go.Proofs.Ythpllmefbhjmmaa
