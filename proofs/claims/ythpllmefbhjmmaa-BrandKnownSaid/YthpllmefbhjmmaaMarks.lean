/-
  Lists of brands, and of barrels; whether brands are valid; 'Grade'.
-/
import Derived.Test.YthpllmefbhjmmaaBarrel
namespace Go.Proofs.Ythpllmefbhjmmaa
open Go.RowKit Go.Maps Plain

/-- Eight cells from an offset on read as a brand. -/
def MkAt (w : World) (b off : Nat) (m : Mk) : Prop :=
  w.cell? ⟨b, off, none⟩ = some (.int .i64 m.s0.lo) ∧ w.cell? ⟨b, off + 1, none⟩ = some (.int .i64 m.s0.hi) ∧ w.cell? ⟨b, off + 2, none⟩ = some (.int .i64 m.s1.lo) ∧ w.cell? ⟨b, off + 3, none⟩ = some (.int .i64 m.s1.hi) ∧
    w.cell? ⟨b, off + 4, none⟩ = some (.int .i64 m.s2.lo) ∧ w.cell? ⟨b, off + 5, none⟩ = some (.int .i64 m.s2.hi) ∧ w.cell? ⟨b, off + 6, none⟩ = some (.int .i64 m.s3.lo) ∧ w.cell? ⟨b, off + 7, none⟩ = some (.int .i64 m.s3.hi)

/-- A slice of brands. -/
def MarksAt (w : World) (v : Value) (ms : List Mk) : Prop :=
  ∃ a cap, v = .slice a ms.length cap ∧ ∀ i m, ms[i]? = some m → ∃ b off, a = some ⟨b, off, none⟩ ∧ MkAt w b (off + i * 8) m

theorem MkAt.kept {w w' : World} {b off : Nat} {m : Mk} (h : MkAt w b off m) (hb : w'.heap[b]? = w.heap[b]?) : MkAt w' b off m := by
  have k : ∀ i, w'.cell? ⟨b, i, none⟩ = w.cell? ⟨b, i, none⟩ := fun i => World.cell?_of_block (a := ⟨b, i, none⟩) hb
  obtain ⟨h0, h1, h2, h3, h4, h5, h6, h7⟩ := h
  exact ⟨(k _).trans h0, (k _).trans h1, (k _).trans h2, (k _).trans h3, (k _).trans h4, (k _).trans h5, (k _).trans h6, (k _).trans h7⟩

theorem MkAt.lt {w : World} {b off : Nat} {m : Mk} (h : MkAt w b off m) : b < w.heap.size := World.block_lt_of_cell? w _ h.1

theorem MarksAt.grown {w w' : World} {v : Value} {ms : List Mk} (h : MarksAt w v ms) {row : Option Nat} (hG : w.grownBy w' row) (hr : ∀ (a : Addr) (u : Value), w.cell? a = some u → some a.block ≠ row) : MarksAt w' v ms := by
  obtain ⟨a, cap, hv, hm⟩ := h
  refine ⟨a, cap, hv, fun i m hi => ?_⟩
  obtain ⟨b, off, ha, hc⟩ := hm i m hi
  exact ⟨b, off, ha, hc.kept (hG.block b hc.lt (hr _ _ hc.1))⟩

theorem MarksAt.below {w w' : World} {v : Value} {ms : List Mk} (h : MarksAt w v ms) (hB : Below w.heap.size w w') : MarksAt w' v ms :=
  h.grown (grown_of_below hB none) (fun _ _ _ => by simp)

theorem MarksAt.memo {w w' : World} {v : Value} {ms : List Mk} {k : Nat} (h : MarksAt w v ms) (hG : w.grownBy w' (some k)) (hM : Memo w k) : MarksAt w' v ms :=
  h.grown hG (fun a u hc e => hM.noCell hc (by injection e))

def spanB (s : Sp) : Bool := decide (0 ≤ s.lo) && decide (s.lo ≤ s.hi) && decide (s.hi ≤ 1000)
def markB (m : Mk) : Bool := spanB m.s0 && spanB m.s1 && spanB m.s2 && spanB m.s3
def marksB (ms : List Mk) : Bool := inB ms.length 1 5 && ms.all markB

/-- The spans before the k-th one are valid. -/
def spansTo (m : Mk) (k : Nat) : Bool := (List.range k).all fun i => spanB (m.at i)
theorem spansTo_succ (m : Mk) (k : Nat) : spansTo m (k + 1) = (spansTo m k && spanB (m.at k)) := by simp [spansTo, List.range_succ]
theorem spansTo_four (m : Mk) : spansTo m 4 = markB m := by simp [spansTo, List.range_succ, Mk.at, markB, Bool.and_assoc]

set_option maxRecDepth 100000 in
theorem mark_index62 (m : Mk) (k : Nat) (hk : k < 4) : ∀ w, (Instr.index 62 (mkV m) (.int .i64 (k : Int))).run Try.prog w = .ok (.agg #[.int .i64 (m.at k).lo, .int .i64 (m.at k).hi]) w := by
  revert k
  refine four ?_ ?_ ?_ ?_
  all_goals (obtain ⟨⟨l0, g0⟩, ⟨l1, g1⟩, ⟨l2, g2⟩, ⟨l3, g3⟩⟩ := m; exact fun _ => by kernel_rfl)

set_option maxRecDepth 100000 in
set_option maxHeartbeats 1600000 in
theorem areMarks_any (v : Value) (ms : List Mk) (w : World) (hms : MarksAt w v ms) (hlen : ms.length ≤ 140737488351232) :
    Calls Try.prog 55 #[v] w fun e w' => e = .returned (.bool (marksB ms)) ∧ Below w.heap.size w w' := by
  obtain ⟨a, cap, rfl, hm⟩ := hms
  have Hm := Lib.hid hm
  have Hix := Lib.hid mark_index62
  clear hm
  go_enter Try.func55, Try.ntmps55
  go_wp2_with fail
  refine (within_any _ _ _ _).mono ?_
  rintro e w1 ⟨rfl, rfl⟩
  generalize hq : inB (ms.length : Int) 1 5 = q0
  have Hq := Lib.hid hq
  clear hq
  go_wp2_with fail
  go_loopw [3, 13] (fun ok i wr => ∃ k : Nat, k ≤ ms.length ∧ i = .int .i64 k ∧ ok = .bool (q0 && (ms.take k).all markB) ∧ Below w.heap.size w wr) (fun _ i _ => (ms.length - (intOf i).toNat))
  case atStart => exact ⟨0, by omega, rfl, by simp, Below.refl _ _⟩
  case round =>
    obtain ⟨k, hk, rfl, rfl, hB⟩ := hrel
    by_cases hlt : k < ms.length
    · have hk1 : (k : Int) < (ms.length : Int) := by omega
      have hk0 : (0 : Int) ≤ (k : Int) := by omega
      obtain ⟨b, off, rfl, hc⟩ := Hm.out k ms[k] (by simp [hlt])
      have hc1 := hc.kept (hB.block b hc.lt)
      have hbl := hc1.lt
      generalize hmk : ms[k] = m at hc1
      have Hmk := Lib.hid hmk
      obtain ⟨c0, c1, c2, c3, c4, c5, c6, c7⟩ := hc1
      clear hc hmk
      generalize hq1 : (q0 && (ms.take k).all markB) = q1
      have Hq1 := Lib.hid hq1
      clear hq1
      go_wp2_with fail
      have hB1 := below_more hB (.cells #[.int .i64 m.s0.lo, .int .i64 m.s0.hi, .int .i64 m.s1.lo, .int .i64 m.s1.hi, .int .i64 m.s2.lo, .int .i64 m.s2.hi, .int .i64 m.s3.lo, .int .i64 m.s3.hi] 62)
      obtain ⟨wo, hwo⟩ : ∃ wo : World, wo = wr.alloc (.cells #[.int .i64 m.s0.lo, .int .i64 m.s0.hi, .int .i64 m.s1.lo, .int .i64 m.s1.hi, .int .i64 m.s2.lo, .int .i64 m.s2.hi, .int .i64 m.s3.lo, .int .i64 m.s3.hi] 62) := ⟨_, rfl⟩
      rw [← hwo] at hB1 ⊢
      clear hwo
      go_loopw [3, 18] (fun ok i wb => ∃ j : Nat, j ≤ 4 ∧ i = .int .i64 j ∧ ok = .bool (q1 && spansTo m j) ∧ Below w.heap.size w wb) (fun _ i _ => (4 - (intOf i).toNat))
      case atStart => exact ⟨0, by omega, rfl, by simp [spansTo], hB1⟩
      case round =>
        clear hB hB1
        obtain ⟨j, hj, rfl, rfl, hBr⟩ := hrel
        by_cases hjl : j < 4
        · have hj1 : (j : Int) < 4 := by omega
          have hix := Hix.out m j hjl
          have Hs := Lib.hid (spansTo_succ m j)
          have hBb := below_more hBr (.cells #[.int .i64 (m.at j).lo, .int .i64 (m.at j).hi] 47)
          generalize hl : (m.at j).lo = lo at hix hBb
          generalize hh : (m.at j).hi = hi at hix hBb
          have Hsp : Hid (spanB (m.at j) = (decide (0 ≤ lo) && decide (lo ≤ hi) && decide (hi ≤ 1000))) := by show spanB _ = _; unfold spanB; rw [hl, hh]
          clear hl hh
          generalize hq2 : (q1 && spansTo m j) = q2
          have Hq2 : Hid ((q1 && spansTo m (j + 1)) = (q2 && (decide (0 ≤ lo) && decide (lo ≤ hi) && decide (hi ≤ 1000)))) := by
            show (q1 && spansTo m (j + 1)) = _
            rw [Hs.out, ← Bool.and_assoc, hq2, Hsp.out]
          clear hq2 Hs Hsp
          cases q2 with
          | false =>
            have He : Hid ((q1 && spansTo m (j + 1)) = false) := by show _ = _; rw [Hq2.out]; rfl
            go_wp2_with fail
            go_roundw
            case rel => exact ⟨j + 1, by omega, by go_num, by rw [He.out], hBb⟩
            case measure => simp [intOf]; omega
          | true =>
            by_cases h1 : 0 ≤ lo
            case neg =>
              have d1 : decide (0 ≤ lo) = false := by simpa using h1
              have He : Hid ((q1 && spansTo m (j + 1)) = false) := by show _ = _; rw [Hq2.out, d1]; rfl
              go_wp2_with fail
              go_roundw
              case rel => exact ⟨j + 1, by omega, by go_num, by rw [He.out], hBb⟩
              case measure => simp [intOf]; omega
  
            have d1 : decide (0 ≤ lo) = true := by simpa using h1
            by_cases h2 : lo ≤ hi
            case neg =>
              have d2 : decide (lo ≤ hi) = false := by simpa using h2
              have He : Hid ((q1 && spansTo m (j + 1)) = false) := by show _ = _; rw [Hq2.out, d1, d2]; rfl
              go_wp2_with fail
              go_roundw
              case rel => exact ⟨j + 1, by omega, by go_num, by rw [He.out], hBb⟩
              case measure => simp [intOf]; omega
  
            have d2 : decide (lo ≤ hi) = true := by simpa using h2
            by_cases h3 : hi ≤ 1000
            case neg =>
              have d3 : decide (hi ≤ 1000) = false := by simpa using h3
              have He : Hid ((q1 && spansTo m (j + 1)) = false) := by show _ = _; rw [Hq2.out, d1, d2, d3]; rfl
              go_wp2_with fail
              go_roundw
              case rel => exact ⟨j + 1, by omega, by go_num, by rw [He.out], hBb⟩
              case measure => simp [intOf]; omega
  
            have d3 : decide (hi ≤ 1000) = true := by simpa using h3
            have He : Hid ((q1 && spansTo m (j + 1)) = true) := by show _ = _; rw [Hq2.out, d1, d2, d3]; rfl
            go_wp2_with fail
            go_roundw
            case rel => exact ⟨j + 1, by omega, by go_num, by rw [He.out], hBb⟩
            case measure => simp [intOf]; omega
        · obtain rfl : j = 4 := by omega
          have He : Hid ((q0 && (ms.take (k + 1)).all markB) = (q1 && spansTo m 4)) := by
            show _ = _
            rw [spansTo_four, ← Hq1.out, List.take_succ_eq_append_getElem hlt, Hmk.out, List.all_append, Bool.and_assoc]
            simp
          go_wp2_with fail
          go_roundw
          case rel => exact ⟨k + 1, by omega, by go_num, by rw [He.out], hBr⟩
          case measure => simp [intOf]; omega
    · have He : Hid (marksB ms = (q0 && (ms.take k).all markB)) := by
        show marksB ms = _
        rw [marksB, Hq.out, List.take_of_length_le (by omega)]
      go_wp2_with fail
      go_ret
      exact ⟨by rw [He.out]; rfl, hB⟩

theorem areMarks_is {q : Bool} (v : Value) (ms : List Mk) (w : World) (hms : MarksAt w v ms) (hlen : ms.length ≤ 140737488351232) (h : marksB ms = q) :
    Calls Try.prog 55 #[v] w fun e w' => e = .returned (.bool q) ∧ Below w.heap.size w w' := by
  rw [← h]; exact areMarks_any v ms w hms hlen

end Go.Proofs.Ythpllmefbhjmmaa
