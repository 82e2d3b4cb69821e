/-
  Baskets: lists of spans; whether they are valid.
-/
import Derived.Test.YthpllmefbhjmmaaMarks
import Derived.Test.YthpllmefbhjmmaaRefGrade
namespace Go.Proofs.Ythpllmefbhjmmaa
open Go.RowKit Go.Maps Plain

/-- A slice of spans. -/
def SpsAt (w : World) (v : Value) (l : List Sp) : Prop :=
  ∃ a cap, v = .slice a l.length cap ∧ ∀ i s, l[i]? = some s → ∃ b off, a = some ⟨b, off, none⟩ ∧ w.cell? ⟨b, off + i * 2, none⟩ = some (.int .i64 s.lo) ∧ w.cell? ⟨b, off + i * 2 + 1, none⟩ = some (.int .i64 s.hi)
theorem SpsAt.below {w w' : World} {v : Value} {l : List Sp} (h : SpsAt w v l) (hB : Below w.heap.size w w') : SpsAt w' v l := by
  obtain ⟨a, cap, hv, hm⟩ := h
  refine ⟨a, cap, hv, fun i s hi => ?_⟩
  obtain ⟨b, off, ha, h1, h2⟩ := hm i s hi
  have hl : b < w.heap.size := World.block_lt_of_cell? w _ h1
  have k : ∀ j, w'.cell? ⟨b, j, none⟩ = w.cell? ⟨b, j, none⟩ := fun j => World.cell?_of_block (a := ⟨b, j, none⟩) (hB.block _ hl)
  exact ⟨b, off, ha, (k _).trans h1, (k _).trans h2⟩

set_option maxHeartbeats 400000 in
theorem within86 (n lo hi : Int) (w : World) : Calls Try.prog 86 #[.int .i64 n, .int .i64 lo, .int .i64 hi] w fun e w' => e = .returned (.bool (inB n lo hi)) ∧ w = w' := by
  by_cases h1 : lo ≤ n
  · by_cases h2 : n ≤ hi
    · have H := Lib.hid (inB_mk ⟨h1, h2⟩)
      go_enter Try.func86, Try.ntmps86
      go_wp2_with fail
      go_ret
      exact ⟨by rw [H.out]; rfl, rfl⟩
    · have H := Lib.hid (inB_no (n := n) (lo := lo) (hi := hi) (fun h => h2 h.2))
      go_enter Try.func86, Try.ntmps86
      go_wp2_with fail
      go_ret
      exact ⟨by rw [H.out]; rfl, rfl⟩
  · have H := Lib.hid (inB_no (n := n) (lo := lo) (hi := hi) (fun h => h1 h.1))
    go_enter Try.func86, Try.ntmps86
    go_wp2_with fail
    go_ret
    exact ⟨by rw [H.out]; rfl, rfl⟩

set_option maxHeartbeats 800000 in
theorem badSpan_is (s : Sp) (w : World) : Calls Try.prog 103 #[.agg #[.int .i64 s.lo, .int .i64 s.hi]] w fun e w' => e = .returned (.bool (!spanB s)) ∧ Below w.heap.size w w' := by
  obtain ⟨lo, hi⟩ := s
  have hB := below_alloc (w := w) (.cells #[.int .i64 lo, .int .i64 hi] 47)
  by_cases h1 : lo < 0
  · have H : Hid (spanB ⟨lo, hi⟩ = false) := by show _ = _; simp [spanB]; omega
    go_enter Try.func103, Try.ntmps103
    go_wp2_with fail
    go_ret
    exact ⟨by rw [H.out]; rfl, hB⟩
  · by_cases h2 : hi < lo
    · have H : Hid (spanB ⟨lo, hi⟩ = false) := by show _ = _; simp [spanB]; omega
      go_enter Try.func103, Try.ntmps103
      go_wp2_with fail
      go_ret
      exact ⟨by rw [H.out]; rfl, hB⟩
    · by_cases h3 : 1000 < hi
      · have H : Hid (spanB ⟨lo, hi⟩ = false) := by show _ = _; simp [spanB]; omega
        go_enter Try.func103, Try.ntmps103
        go_wp2_with fail
        go_ret
        exact ⟨by rw [H.out]; rfl, hB⟩
      · have H : Hid (spanB ⟨lo, hi⟩ = true) := by show _ = _; simp [spanB]; omega
        go_enter Try.func103, Try.ntmps103
        go_wp2_with fail
        go_ret
        exact ⟨by rw [H.out]; rfl, hB⟩

/-- Where the first bad span stands; -1: nowhere. -/
def badAt (l : List Sp) : Int := match l.findIdx? fun s => !spanB s with
  | some i => (i : Int)
  | none => -1

set_option maxRecDepth 100000 in
set_option maxHeartbeats 800000 in
theorem index107 (v : Value) (l : List Sp) (w : World) (hl : SpsAt w v l) (hlen : l.length ≤ 140737488351232) :
    Calls Try.prog 107 #[v, .func (.func 103) #[] #[]] w fun e w' => e = .returned (.int .i64 (badAt l)) ∧ Below w.heap.size w w' := by
  obtain ⟨a, cap, rfl, hm⟩ := hl
  have Hm := Lib.hid hm
  clear hm
  go_enter Try.func107, Try.ntmps107
  go_wp2_with fail
  go_loopw [8] (fun i wr => ∃ k : Nat, k ≤ l.length ∧ i = .int .i64 k ∧ Hid (∀ j s, j < k → l[j]? = some s → spanB s = true) ∧ Below w.heap.size w wr) (fun i _ => l.length - (intOf i).toNat)
  case atStart => exact ⟨0, by omega, rfl, fun j s h => by omega, Below.refl _ _⟩
  case round =>
    obtain ⟨k, hk, rfl, hall, hB⟩ := hrel
    by_cases hlt : k < l.length
    · have hk1 : (k : Int) < (l.length : Int) := by omega
      have hk0 : (0 : Int) ≤ (k : Int) := by omega
      obtain ⟨b, off, rfl, c0, c1⟩ := Hm.out k l[k] (by simp [hlt])
      have hbl : b < w.heap.size := World.block_lt_of_cell? w _ c0
      have d0 := (World.cell?_of_block (a := ⟨b, off + k * 2, none⟩) (hB.block _ hbl)).trans c0
      have d1 := (World.cell?_of_block (a := ⟨b, off + k * 2 + 1, none⟩) (hB.block _ hbl)).trans c1
      have Hfs : Hid (spanB l[k] = false → badAt l = k) := fun h => by
        have : l.findIdx? (fun s => !spanB s) = some k := by
          rw [List.findIdx?_eq_some_iff_getElem]
          refine ⟨hlt, by rw [h]; rfl, fun j hj => ?_⟩
          have := hall.out j l[j] hj (List.getElem?_eq_getElem (by omega))
          rw [this]; simp
        unfold badAt; rw [this]
      have Hnx : Hid (spanB l[k] = true → ∀ j s, j < k + 1 → l[j]? = some s → spanB s = true) := fun h j s hj hs => by
        by_cases e : j = k
        · subst e; rw [List.getElem?_eq_getElem hlt] at hs; cases hs; exact h
        · exact hall.out j s (by omega) hs
      clear c0 c1
      generalize l[k] = s at *
      obtain ⟨q, hq⟩ : ∃ q, spanB s = q := ⟨_, rfl⟩
      have hcall := badSpan_is s
      rw [hq] at hcall
      have Hcall := Lib.hid hcall
      clear hcall
      cases q with
      | true =>
        have Hn := Lib.hid (Hnx.out hq)
        clear Hnx Hfs hq
        go_wp2_with fail
        refine (Hcall.out _).mono ?_
        rintro e w2 ⟨rfl, hB2⟩
        have hB3 := below_trans hB hB2
        clear hB2 hB
        go_wp2_with fail
        go_roundw
        case rel => exact ⟨k + 1, by omega, by go_num, Hn.out, hB3⟩
        case measure => simp [intOf]; omega
      | false =>
        have Hf := Lib.hid (Hfs.out hq)
        clear Hnx Hfs hq
        go_wp2_with fail
        refine (Hcall.out _).mono ?_
        rintro e w2 ⟨rfl, hB2⟩
        have hB3 := below_trans hB hB2
        clear hB2 hB
        go_wp2_with fail
        go_ret
        exact ⟨by rw [Hf.out]; rfl, hB3⟩
    · obtain rfl : k = l.length := by omega
      have Hf : Hid (badAt l = -1) := by
        show _ = _
        have : l.findIdx? (fun s => !spanB s) = none := by
          rw [List.findIdx?_eq_none_iff]
          intro s hs
          obtain ⟨j, hj⟩ := List.getElem?_of_mem hs
          have := hall.out j s (List.getElem?_eq_some_iff.1 hj).1 hj
          rw [this]; rfl
        unfold badAt; rw [this]
      go_wp2_with fail
      go_ret
      exact ⟨by rw [Hf.out]; rfl, hB⟩

end Go.Proofs.Ythpllmefbhjmmaa
