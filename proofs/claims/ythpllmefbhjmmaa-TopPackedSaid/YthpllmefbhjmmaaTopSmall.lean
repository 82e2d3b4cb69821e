/-
  Small functions of the laws over layers: 'Lots' at bad baskets, 'within', 'to', 'spanned'.
-/
import Derived.Test.YthpllmefbhjmmaaAreLots
namespace Go.Proofs.Ythpllmefbhjmmaa
open Go.RowKit Go.Maps Plain

set_option maxHeartbeats 400000 in
theorem lots_bad (v : Value) (l : List Sp) (w : World) (hl : SpsAt w v l) (hlen : l.length ≤ 140737488351232) (h : loadsB l = false) :
    Calls Try.prog 30 #[v] w fun e w' => e = .returned (.tuple #[.slice none 0 0, .int .i64 43]) ∧ Below w.heap.size w w' := by
  have Hc := Lib.hid (areLoads_is v l w hl hlen h)
  clear hl h
  go_enter Try.func30, Try.ntmps30
  go_wp2_with fail
  refine Hc.out.mono ?_
  rintro e w1 ⟨rfl, hB⟩
  go_wp2_with fail
  go_ret2
  exact ⟨rfl, hB⟩

set_option maxHeartbeats 400000 in
theorem within88 (n lo hi : Int) (w : World) : Calls Try.prog 88 #[.int .i64 n, .int .i64 lo, .int .i64 hi] w fun e w' => e = .returned (.bool (inB n lo hi)) ∧ w = w' := by
  by_cases h1 : lo ≤ n
  · by_cases h2 : n ≤ hi
    · have H := Lib.hid (inB_mk ⟨h1, h2⟩)
      go_enter Try.func88, Try.ntmps88
      go_wp2_with fail
      go_ret
      exact ⟨by rw [H.out]; rfl, rfl⟩
    · have H := Lib.hid (inB_no (n := n) (lo := lo) (hi := hi) (fun h => h2 h.2))
      go_enter Try.func88, Try.ntmps88
      go_wp2_with fail
      go_ret
      exact ⟨by rw [H.out]; rfl, rfl⟩
  · have H := Lib.hid (inB_no (n := n) (lo := lo) (hi := hi) (fun h => h1 h.1))
    go_enter Try.func88, Try.ntmps88
    go_wp2_with fail
    go_ret
    exact ⟨by rw [H.out]; rfl, rfl⟩

set_option maxHeartbeats 400000 in
theorem to36 (x y : Int) (w : World) :
    Calls Try.prog 36 #[.int .i64 x, .int .i64 y] w fun e w' => e = .returned (.agg #[.int .i64 x, .int .i64 y]) ∧ Below w.heap.size w w' := by
  go_enter Try.func36, Try.ntmps36
  go_wp2_with fail
  refine bodyPost_ret (v := .agg #[.int .i64 x, .int .i64 y]) (by simp [results, Try.results36, go_sem]) rfl ⟨rfl, ?_⟩
  exact below_alloc _

/-- A span from 0 to a greatest number. -/
def spanTo1 (s : Sp) (h : Int) : Bool := decide (0 ≤ s.lo) && decide (s.lo ≤ s.hi) && decide (s.hi ≤ h)
set_option maxHeartbeats 800000 in
theorem spanned104 (s : Sp) (h : Int) (w : World) : Calls Try.prog 104 #[.agg #[.int .i64 s.lo, .int .i64 s.hi], .int .i64 h] w fun e w' => e = .returned (.bool (spanTo1 s h)) ∧ Below w.heap.size w w' := by
  obtain ⟨lo, hi⟩ := s
  have hB := below_alloc (w := w) (.cells #[.int .i64 lo, .int .i64 hi] 47)
  by_cases h1 : 0 ≤ lo
  · by_cases h2 : lo ≤ hi
    · by_cases h3 : hi ≤ h
      · have H : Hid (spanTo1 ⟨lo, hi⟩ h = true) := by show _ = _; simp [spanTo1]; omega
        go_enter Try.func104, Try.ntmps104
        go_wp2_with fail
        go_ret
        exact ⟨by rw [H.out]; rfl, hB⟩
      · have H : Hid (spanTo1 ⟨lo, hi⟩ h = false) := by show _ = _; simp [spanTo1]; omega
        go_enter Try.func104, Try.ntmps104
        go_wp2_with fail
        go_ret
        exact ⟨by rw [H.out]; rfl, hB⟩
    · have H : Hid (spanTo1 ⟨lo, hi⟩ h = false) := by show _ = _; simp [spanTo1]; omega
      go_enter Try.func104, Try.ntmps104
      go_wp2_with fail
      go_ret
      exact ⟨by rw [H.out]; rfl, hB⟩
  · have H : Hid (spanTo1 ⟨lo, hi⟩ h = false) := by show _ = _; simp [spanTo1]; omega
    go_enter Try.func104, Try.ntmps104
    go_wp2_with fail
    go_ret
    exact ⟨by rw [H.out]; rfl, hB⟩

end Go.Proofs.Ythpllmefbhjmmaa
