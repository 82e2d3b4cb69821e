/-
  All plans of a lot, in their order: the function that yields them.
-/
import Derived.RangeFuncNested
import Derived.RangeFuncBound
import Derived.RangeFuncCalls
import Derived.RangeFuncLeaves
import Derived.Shelf.Abstract
import Derived.Shelf.RegionOpen
import Derived.WalkKit
import Derived.OwnWalkIn
import Derived.TacticsInMore
import Derived.LoopNIn
import Derived.LoopIn
import Derived.Test.YthpllmefbhjmmaaKept
namespace Go.Proofs.Ythpllmefbhjmmaa
open Go.RowKit Go.Shelf Go.Maps Plain
attribute [local go_sem] Oper.semAt_some

/-- The plans that open so many. -/
def row (o : Nat) : List (Nat × Nat) := (List.range (o + 1)).map fun a => (o, a)
/-- The plans that open fewer. -/
def rows (j : Nat) : List (Nat × Nat) := (List.range j).flatMap row
theorem rows_succ (j : Nat) : rows (j + 1) = rows j ++ row j := by simp [rows, List.range_succ, List.flatMap_append]

/-- A plan of a lot of N. -/
abbrev Pl (N : Nat) : Type := { x : Nat × Nat // x.1 ≤ N ∧ x.2 ≤ x.1 }

def rowTo (o k : Nat) : List (Nat × Nat) := (List.range k).map fun a => (o, a)
theorem rowTo_succ (o k : Nat) : rowTo o (k + 1) = rowTo o k ++ [(o, k)] := by simp [rowTo, List.range_succ]
theorem rowTo_all (o : Nat) : rowTo o (o + 1) = row o := rfl
theorem rows_prefix {j N : Nat} (h : j ≤ N) : ∃ t, rows N = rows j ++ t := by
  induction N with
  | zero => obtain rfl : j = 0 := by omega
            exact ⟨[], by simp⟩
  | succ N ih =>
    by_cases e : j = N + 1
    · exact ⟨[], by simp [e]⟩
    · obtain ⟨t, ht⟩ := ih (by omega)
      exact ⟨t ++ row N, by rw [rows_succ, ht, List.append_assoc]⟩
theorem rowTo_prefix' {o k : Nat} : ∀ m, k ≤ m → ∃ t, rowTo o m = rowTo o k ++ t := by
  intro m
  induction m with
  | zero => intro h; obtain rfl : k = 0 := by omega
            exact ⟨[], by simp⟩
  | succ m ih =>
    intro h
    by_cases e : k = m + 1
    · exact ⟨[], by simp [e]⟩
    · obtain ⟨t, ht⟩ := ih (by omega)
      exact ⟨t ++ [(o, m)], by rw [rowTo_succ, ht, List.append_assoc]⟩
theorem rowTo_prefix {o k : Nat} (h : k ≤ o + 1) : ∃ t, row o = rowTo o k ++ t := rowTo_prefix' (o + 1) h
theorem part_prefix {j k N : Nat} (hj : j ≤ N) (hk : k ≤ j + 1) : ∃ t, rows (N + 1) = (rows j ++ rowTo j k) ++ t := by
  obtain ⟨t1, h1⟩ := rows_prefix (show j + 1 ≤ N + 1 by omega)
  obtain ⟨t2, h2⟩ := rowTo_prefix hk
  exact ⟨t2 ++ t1, by rw [h1, rows_succ, h2]; simp⟩
theorem part_lt {j k N : Nat} (hj : j ≤ N) (hk : k < j + 1) : (rows j ++ rowTo j k).length < (rows (N + 1)).length := by
  obtain ⟨t, ht⟩ := part_prefix (N := N) hj (show k + 1 ≤ j + 1 by omega)
  rw [ht, rowTo_succ]; simp

set_option maxRecDepth 100000 in
set_option maxHeartbeats 1000000 in
/-- The closure: whatever the loop's body is. -/
theorem plans1_in (F : Fence) (n : Nat) (h98 : F.fn 98) (hro : F.round = none) (hn : 1 ≤ n) (l B : Nat) (N : Nat) (hN : N ≤ 40) (J Jx : List (Pl N) → World → Prop)
    (hY : ∀ pre x W, J pre W → pre.length < (rows (N + 1)).length → YieldAt F (n - 1) Try.prog l #[planV (x.1.1 : Int) (x.1.2 : Int)] W fun e W' =>
      (e = .returned (.bool true) ∧ J (pre ++ [x]) W' ∧ True) ∨ (e = .returned (.bool false) ∧ Jx (pre ++ [x]) W'))
    (W : World) (hc : W.cell? ⟨B, 0, none⟩ = some (.int .i64 (N : Int))) (h0 : J [] W) :
    CallsIn F n Try.prog 98 #[.func (.yield l) #[] #[], .pointer (some ⟨B, 0, none⟩)] W fun e W' => (∃ v, e = .returned v) ∧
      ((∃ ys, ys.map (·.1) = rows (N + 1) ∧ J ys W') ∨ (∃ pre, pre.map (·.1) <+: rows (N + 1) ∧ Jx pre W')) := by
  have HY := Lib.hid hY
  clear hY
  refine callsIn_of_wp Try.func98 rfl h98 ?_ hro
  simp only [Try.ntmps98, List.size_toArray, List.length_cons, List.length_nil, Nat.reduceAdd, Nat.reduceSub, Array.replicate_succ, Array.replicate_zero, List.push_toArray, List.append_toArray, List.nil_append, List.cons_append]
  gi_wp2
  gi_loopw [8] (fun p wr => ∃ (j : Nat) (pre : List (Pl N)), p = .int .i64 j ∧ j ≤ N + 1 ∧ Hid (pre.map (·.1) = rows j) ∧ J pre wr) (fun p _ => (N + 1 - (intOf p).toNat))
  case atStart => exact ⟨0, [], rfl, by omega, rfl, h0⟩
  case round =>
    obtain ⟨j, pre, rfl, hj, hpre, hJ⟩ := hrel
    by_cases hlt : j < N + 1
    · have hlt' : (j : Int) < (N : Int) + 1 := by omega
      gi_wp2
      obtain ⟨wo, rfl⟩ : ∃ wo : World, wo = wr := ⟨_, rfl⟩
      gi_loopw [13] (fun p wr => ∃ (k : Nat) (pre : List (Pl N)), p = .int .i64 k ∧ k ≤ j + 1 ∧ Hid (pre.map (·.1) = rows j ++ rowTo j k) ∧ J pre wr) (fun p _ => (j + 1 - (intOf p).toNat))
      case atStart => exact ⟨0, pre, rfl, by omega, by rw [hpre.out]; simp [Hid, rowTo], hJ⟩
      case round =>
        clear hpre hJ
        obtain ⟨k, pre, rfl, hk, hpre, hJ⟩ := hrel
        by_cases hkl : k < j + 1
        · have hkl' : (k : Int) < (j : Int) + 1 := by omega
          have hlen : pre.length < (rows (N + 1)).length := by
            have := part_lt (N := N) (show j ≤ N by omega) hkl
            rw [← hpre.out] at this; simpa using this
          obtain ⟨fn, tmps, assign, body, hy, hR⟩ := HY.out pre ⟨(j, k), by simp; omega⟩ wr hJ hlen
          have Hp : Hid ((pre ++ [(⟨(j, k), by simp; omega⟩ : Pl N)]).map (·.1) = rows j ++ rowTo j (k + 1)) := by
            show (pre ++ [(⟨(j, k), by simp; omega⟩ : Pl N)]).map (·.1) = _
            rw [List.map_append, hpre.out, rowTo_succ]; simp
          have Hx : Hid ((pre ++ [(⟨(j, k), by simp; omega⟩ : Pl N)]).map (·.1) <+: rows (N + 1)) := by
            obtain ⟨t, ht⟩ := part_prefix (N := N) (show j ≤ N by omega) (show k + 1 ≤ j + 1 by omega)
            exact ⟨t, by rw [Hp.out]; exact ht.symm⟩
          gi_wp2
          refine hR.mono ?_
          rintro e W1 (⟨rfl, hJ1, _⟩ | ⟨rfl, hJx1⟩)
          · gi_wp2
            go_roundw
            case rel => exact ⟨k + 1, _, by go_num, by omega, Hp, hJ1⟩
            case measure => simp [intOf]; omega
          · gi_wp2
            refine bodyPost_ret (results_none rfl _ _ _) rfl ?_
            exact ⟨⟨_, rfl⟩, .inr ⟨_, Hx.out, hJx1⟩⟩
        · have hkl' : ¬ (k : Int) < (j : Int) + 1 := by omega
          have Hp : Hid (pre.map (·.1) = rows (j + 1)) := by
            show pre.map (·.1) = _
            rw [hpre.out, rows_succ, show k = j + 1 by omega, rowTo_all]
          gi_wp2
          go_roundw
          case rel => exact ⟨j + 1, pre, by go_num, by omega, Hp, hJ⟩
          case measure => simp [intOf]; omega
    · have hlt' : ¬ (j : Int) < (N : Int) + 1 := by omega
      have Hp : Hid (pre.map (·.1) = rows (N + 1)) := by
        show pre.map (·.1) = _
        rw [hpre.out, show j = N + 1 by omega]
      gi_wp2
      go_end0
      exact ⟨⟨_, rfl⟩, .inl ⟨pre, Hp.out, hJ⟩⟩

/-- The function that yields all plans keeps its contract. -/
theorem plans_stops (F : Fence) (n : Nat) (h98 : F.fn 98) (hro : F.round = none) (hn : 1 ≤ n) (B : Nat) (N : Nat) (hN : N ≤ 40) (w : World) (hB : B < w.heap.size) (hc : w.cell? ⟨B, 0, none⟩ = some (.int .i64 (N : Int))) :
    SeqStopsK F n Try.prog 98 #[.pointer (some ⟨B, 0, none⟩)] (fun x : Pl N => #[planV (x.1.1 : Int) (x.1.2 : Int)]) (fun _ _ => True) (fun ys => ys.map (·.1) = rows (N + 1)) (fun pre => pre.map (·.1) <+: rows (N + 1)) (rows (N + 1)).length w :=
  fun l J Jx W hW _ _ hY h0 => plans1_in F n h98 hro hn l B N hN J Jx hY W ((hW.cell (p := ⟨B, 0, none⟩) hB).trans hc) h0

/-- 'plans'. -/
theorem plans_in (F : Fence) (n : Nat) (h74 : F.fn 74) (hro : F.round = none) (N : Int) (m : Nat) (w : World) :
    CallsIn F n Try.prog 74 #[lotV N m] w fun e w' => e = .returned (.func (.func 98) #[] #[.pointer (some ⟨w.heap.size, 0, none⟩)]) ∧ w' = w.alloc (.cells #[.int .i64 N, .map (some m)] 103) := by
  refine callsIn_of_wp Try.func74 rfl h74 ?_ hro
  simp only [Try.ntmps74, List.size_toArray, List.length_cons, List.length_nil, Nat.reduceAdd, Nat.reduceSub, Array.replicate_succ, Array.replicate_zero, List.push_toArray, List.append_toArray, List.nil_append, List.cons_append]
  gi_wp2
  go_ret
  exact ⟨rfl, rfl⟩

end Go.Proofs.Ythpllmefbhjmmaa
