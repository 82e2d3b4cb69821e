/-
  The greatest of several numbers; both sides of what was found.
-/
import Derived.Test.YthpllmefbhjmmaaKept
import Derived.Lib.MinMax
import Derived.LoopN
namespace Go.Proofs.Ythpllmefbhjmmaa
open Go.RowKit Go.Maps Plain

/-- A slice of whole numbers. -/
def IntsAt (w : World) (v : Value) (l : List Int) : Prop :=
  ∃ a cap, v = .slice a l.length cap ∧ ∀ i n, l[i]? = some n → ∃ b off, a = some ⟨b, off, none⟩ ∧ w.cell? ⟨b, off + i, none⟩ = some (.int .i64 n)

def greatestL (x : Int) (l : List Int) : Int := l.foldl max x

set_option maxRecDepth 100000 in
set_option maxHeartbeats 800000 in
theorem greatest_any (x : Int) (v : Value) (l : List Int) (w : World) (hl : IntsAt w v l) (hlen : l.length ≤ 140737488351232) :
    Calls Try.prog 79 #[.int .i64 x, v] w fun e w' => e = .returned (.int .i64 (greatestL x l)) ∧ w = w' := by
  obtain ⟨a, cap, rfl, hm⟩ := hl
  have Hm := Lib.hid hm
  clear hm
  go_enter Try.func79, Try.ntmps79
  go_wp2_with fail
  go_loop [0, 9] (fun m i => ∃ k : Nat, k ≤ l.length ∧ i = .int .i64 k ∧ m = .int .i64 ((l.take k).foldl max x)) (fun _ i => (l.length - (intOf i).toNat))
  case atStart => exact ⟨0, by omega, rfl, rfl⟩
  case round =>
    obtain ⟨k, hk, rfl, rfl⟩ := hrel
    by_cases hlt : k < l.length
    · have hk1 : (k : Int) < (l.length : Int) := by omega
      have hk0 : (0 : Int) ≤ (k : Int) := by omega
      obtain ⟨b, off, rfl, hc⟩ := Hm.out k l[k] (by simp [hlt])
      have Hn : Hid ((l.take (k + 1)).foldl max x = max ((l.take k).foldl max x) l[k]) := by
        show _ = _
        rw [List.take_succ_eq_append_getElem hlt, List.foldl_append]; rfl
      generalize l[k] = n at hc Hn
      generalize (l.take k).foldl max x = y at Hn ⊢
      go_wp2_with fail
      go_round
      case rel => exact ⟨k + 1, by omega, by go_num, by rw [Hn.out]⟩
      case measure => simp [intOf]; omega
    · have Hn : Hid ((l.take k).foldl max x = greatestL x l) := by
        show _ = _
        rw [List.take_of_length_le (by omega)]; rfl
      go_wp2_with fail
      go_ret
      exact ⟨by rw [← Hn.out]; rfl, rfl⟩

theorem greatest_is {y : Int} (x : Int) (v : Value) (l : List Int) (w : World) (hl : IntsAt w v l) (hlen : l.length ≤ 140737488351232) (h : greatestL x l = y) :
    Calls Try.prog 79 #[.int .i64 x, v] w fun e w' => e = .returned (.int .i64 y) ∧ w = w' := by
  rw [← h]; exact greatest_any x v l w hl hlen

set_option maxHeartbeats 400000 in
theorem side1_any (f o : Int) (w : World) : Calls Try.prog 99 #[.int .i64 f, .int .i64 o] w fun e w' => e = .returned (.tuple #[.int .i64 0, .int .i64 f]) ∧ w = w' := by
  go_enter Try.func99, Try.ntmps99
  go_wp2
  go_ret2
  exact ⟨rfl, rfl⟩
set_option maxHeartbeats 400000 in
theorem side2_any (f o : Int) (w : World) : Calls Try.prog 100 #[.int .i64 f, .int .i64 o] w fun e w' => e = .returned (.tuple #[.int .i64 f, .int .i64 o]) ∧ w = w' := by
  go_enter Try.func100, Try.ntmps100
  go_wp2
  go_ret2
  exact ⟨rfl, rfl⟩

set_option maxHeartbeats 400000 in
theorem sides_any (w : World) : Calls Try.prog 76 #[] w fun e w' => e = .returned (.slice (some ⟨w.heap.size, 0, none⟩) 2 2) ∧ w.alloc (.cells #[.func (.func 99) #[] #[], .func (.func 100) #[] #[]] 122) = w' := by
  go_enter Try.func76, Try.ntmps76
  go_wp2
  go_ret
  exact ⟨rfl, rfl⟩

end Go.Proofs.Ythpllmefbhjmmaa
