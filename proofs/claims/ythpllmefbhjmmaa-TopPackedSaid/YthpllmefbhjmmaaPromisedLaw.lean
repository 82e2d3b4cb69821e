/-
  Plain laws on what a lot is promised: the Allow that is told; the first brand of which so few are below; a barrel that reaches it in the place of another.
-/
import Derived.Test.YthpllmefbhjmmaaFull
import Derived.Test.YthpllmefbhjmmaaRefGraded
namespace Go.Proofs.Ythpllmefbhjmmaa
open Go.RowKit Go.Maps Plain

theorem allow_to {N : Int} {r : Rl} {n : Nat} : ∀ j : Nat,
    (allowFold N r n (rowTo n j) = -1 ∧ ∀ a : Nat, a < j → keepsB N r n a = false) ∨
    (∃ a : Nat, a < j ∧ allowFold N r n (rowTo n j) = a ∧ keepsB N r n a = true ∧ ∀ c : Nat, a < c → c < j → keepsB N r n c = false)
  | 0 => .inl ⟨rfl, fun a h => by omega⟩
  | j + 1 => by
    have e : allowFold N r n (rowTo n (j + 1)) = if keepsB N r n j = true then (j : Int) else allowFold N r n (rowTo n j) := by
      unfold allowFold rowTo
      rw [List.range_succ, List.map_append, List.foldl_append]
      simp
    rw [e]
    cases hk : keepsB N r n j with
    | true => exact .inr ⟨j, by omega, by simp, hk, fun c h1 h2 => by omega⟩
    | false =>
      rw [if_neg (by simp)]
      rcases allow_to (N := N) (r := r) (n := n) j with ⟨h1, h2⟩ | ⟨a, h1, h2, h3, h4⟩
      · refine .inl ⟨h1, fun a ha => ?_⟩
        by_cases e : a = j
        · subst e; exact hk
        · exact h2 a (by omega)
      · refine .inr ⟨a, by omega, h2, h3, fun c hc hc2 => ?_⟩
        by_cases e : c = j
        · subst e; exact hk
        · exact h4 c hc (by omega)

theorem row_is (n : Nat) : row n = rowTo n (n + 1) := rfl

/-- A barrel that reaches a brand: the Low of each span. -/
def lows (m : Mk) : Br := ⟨m.s0.lo, m.s1.lo, m.s2.lo, m.s3.lo⟩
theorem markB_spans {m : Mk} (h : markB m = true) : (0 ≤ m.s0.lo ∧ m.s0.lo ≤ m.s0.hi ∧ m.s0.hi ≤ 1000) ∧ (0 ≤ m.s1.lo ∧ m.s1.lo ≤ m.s1.hi ∧ m.s1.hi ≤ 1000) ∧ (0 ≤ m.s2.lo ∧ m.s2.lo ≤ m.s2.hi ∧ m.s2.hi ≤ 1000) ∧ (0 ≤ m.s3.lo ∧ m.s3.lo ≤ m.s3.hi ∧ m.s3.hi ≤ 1000) := by
  simp only [markB, spanB, Bool.and_eq_true, decide_eq_true_eq] at h
  omega
theorem lows_bar {m : Mk} (h : markB m = true) : barB (lows m) = true := by
  have := markB_spans h
  unfold barB lows
  simp only [Bool.and_eq_true]
  exact ⟨⟨⟨inB_mk ⟨by omega, by omega⟩, inB_mk ⟨by omega, by omega⟩⟩, inB_mk ⟨by omega, by omega⟩⟩, inB_mk ⟨by omega, by omega⟩⟩
theorem lows_reach {m : Mk} (h : markB m = true) : belowB m (lows m) = false := by
  rw [below_reach h]
  have := markB_spans h
  have e0 : inB m.s0.lo m.s0.lo m.s0.hi = true := inB_mk ⟨by omega, by omega⟩
  have e1 : inB m.s1.lo m.s1.lo m.s1.hi = true := inB_mk ⟨by omega, by omega⟩
  have e2 : inB m.s2.lo m.s2.lo m.s2.hi = true := inB_mk ⟨by omega, by omega⟩
  have e3 : inB m.s3.lo m.s3.lo m.s3.hi = true := inB_mk ⟨by omega, by omega⟩
  unfold reachB lows
  simp only [e0, e1, e2, e3]
  rfl

theorem below_set {m : Mk} {x : Br} (hx : belowB m x = false) : ∀ (xs : List Br) (j : Nat), belowOf m (xs.set j x) ≤ belowOf m xs
  | [], _ => by simp
  | y :: xs, 0 => by
    unfold belowOf
    rw [List.set_cons_zero, List.filter_cons, List.filter_cons, hx]
    simp only [Bool.false_eq_true, if_false]
    split <;> simp
  | y :: xs, j + 1 => by
    have := below_set hx xs j
    unfold belowOf at this ⊢
    rw [List.set_cons_succ, List.filter_cons, List.filter_cons]
    split <;> simp <;> omega

theorem promise_cases (ms : List Mk) (N : Int) (r : Rl) (xs : List Br) :
    (∃ e, e ≠ 0 ∧ promiseR ms N r xs = (0, 0, e)) ∨
    (marksB ms = true ∧ inB N 1 40 = true ∧ ruleB N r = true ∧ (xs.length : Int) ≤ N ∧ (∀ x ∈ xs, barB x = true) ∧
      ∃ i al : Nat, promiseR ms N r xs = ((i : Int), (al : Int), 0) ∧ i < ms.length ∧ al ≤ xs.length ∧ keepsB N r xs.length al = true ∧ (al < xs.length → keepsB N r xs.length ((al + 1 : Nat) : Int) = false) ∧
        (∀ (j : Nat) (h : j < ms.length), j ≤ i → (belowOf ms[j] xs ≤ al ↔ j = i)) ∧
        ∀ (h : i < ms.length) (k : Nat), ∃ i' : Nat, i' ≤ i ∧ promiseR ms N r (xs.set k (lows ms[i])) = ((i' : Int), (al : Int), 0)) := by
  unfold promiseR
  cases h1 : marksB ms with
  | false => exact .inl ⟨70, by decide, by simp⟩
  | true =>
  cases h2 : inB N 1 40 with
  | false => exact .inl ⟨7, by decide, by simp⟩
  | true =>
  cases h3 : ruleB N r with
  | false => exact .inl ⟨71, by decide, by simp⟩
  | true =>
  cases h4 : okOpened N xs with
  | false => exact .inl ⟨73, by decide, by simp⟩
  | true =>
  rw [if_pos rfl, if_pos rfl, if_pos rfl, if_pos rfl]
  have h4' := h4
  unfold okOpened at h4'
  rw [Bool.and_eq_true, decide_eq_true_iff] at h4'
  obtain ⟨g1, g2⟩ := inB_true h2
  have hal : allowFold N r xs.length (rows (N.toNat + 1)) = allowFold N r xs.length (rowTo xs.length (xs.length + 1)) := by rw [allow_row (by omega), row_is]
  have hmv : ∀ m ∈ ms, markB m = true := by
    intro m hm
    unfold marksB at h1
    rw [Bool.and_eq_true] at h1
    exact List.all_eq_true.1 h1.2 m hm
  cases hp : promised (allowFold N r xs.length (rows (N.toNat + 1))) ms xs with
  | none => exact .inl ⟨4, by decide, rfl⟩
  | some i =>
    right
    have hp' := hp
    unfold promised at hp
    rw [List.findIdx?_eq_some_iff_getElem] at hp
    obtain ⟨hi, hb, hbefore⟩ := hp
    have hb' := of_decide_eq_true hb
    rw [hal] at hb' hbefore hp' ⊢
    rcases allow_to (N := N) (r := r) (n := xs.length) (xs.length + 1) with ⟨e1, _⟩ | ⟨al, a1, a2, a3, a4⟩
    · rw [e1] at hb'; omega
    rw [a2] at hb' hbefore hp' ⊢
    refine ⟨rfl, rfl, rfl, h4'.1, fun x hx => List.all_eq_true.1 h4'.2 x hx, i, al, rfl, hi, by omega, a3, fun h => a4 (al + 1) (by omega) (by omega), ?_, ?_⟩
    · intro j hj hji
      constructor
      · intro h
        refine Classical.byContradiction fun hne => ?_
        have := hbefore j (by omega)
        simp only [decide_eq_true_eq] at this
        omega
      · rintro rfl; omega
    · intro h k
      have hm := hmv ms[i] (List.getElem_mem h)
      have hok : okOpened N (xs.set k (lows ms[i])) = true := by
        unfold okOpened
        rw [Bool.and_eq_true, decide_eq_true_iff, List.length_set]
        refine ⟨h4'.1, List.all_eq_true.2 fun x hx => ?_⟩
        rcases List.mem_or_eq_of_mem_set hx with hx | rfl
        · exact List.all_eq_true.1 h4'.2 x hx
        · exact lows_bar hm
      rw [hok, if_pos rfl, List.length_set, hal, a2]
      have hfew : decide ((belowOf ms[i] (xs.set k (lows ms[i])) : Int) ≤ (al : Int)) = true := by
        have := below_set (lows_reach hm) xs k
        rw [decide_eq_true_iff]; omega
      cases hq : promised (al : Int) ms (xs.set k (lows ms[i])) with
      | none =>
        exfalso
        unfold promised at hq
        rw [List.findIdx?_eq_none_iff] at hq
        have := hq ms[i] (List.getElem_mem h)
        rw [this] at hfew; cases hfew
      | some i' =>
        refine ⟨i', ?_, rfl⟩
        unfold promised at hq
        rw [List.findIdx?_eq_some_iff_getElem] at hq
        obtain ⟨_, _, hb2⟩ := hq
        refine Classical.byContradiction fun hlt => ?_
        have := hb2 i (by omega)
        rw [hfew] at this
        simp at this

end Go.Proofs.Ythpllmefbhjmmaa
