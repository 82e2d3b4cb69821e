/-
  Plain laws on a yard: a plan that keeps it with the greatest leaks keeps it with any.
-/
import Derived.Test.YthpllmefbhjmmaaLeaked
namespace Go.Proofs.Ythpllmefbhjmmaa
open Go.RowKit Go.Maps Plain

/-- The levels behind a month: all have leaked, one is topped up. -/
def stepF (l : List Ck) (x f : Nat → Int) (t : Nat) : Nat → Int := fun j => if j = t then fullOf l t else leakF x f l.length j
/-- A plan keeps a yard with the greatest leaks, from the levels f on. -/
def keepsP (l : List Ck) : (Nat → Int) → List Nat → Prop
  | _, [] => True
  | f, t :: r => t < l.length ∧ fallOf l (hiOf l) f l.length < 0 ∧ keepsP l (stepF l (hiOf l) f t) r
/-- The levels behind k months of a plan. -/
def runF (l : List Ck) (x : Nat → Nat → Int) (f : Nat → Int) (p : List Nat) : Nat → Nat → Int
  | 0 => f
  | k + 1 => stepF l (x k) (runF l x f p k) (p.getD k 0)

theorem runF_shift (l : List Ck) (x : Nat → Nat → Int) (f : Nat → Int) (t : Nat) (r : List Nat) : ∀ k, runF l x f (t :: r) (k + 1) = runF l (fun m => x (m + 1)) (stepF l (x 0) f t) r k
  | 0 => rfl
  | k + 1 => by
    show stepF l (x (k + 1)) (runF l x f (t :: r) (k + 1)) ((t :: r).getD (k + 1) 0) = stepF l (x (k + 1)) (runF l (fun m => x (m + 1)) (stepF l (x 0) f t) r k) (r.getD k 0)
    rw [runF_shift l x f t r k]
    rfl
theorem keeps_at (l : List Ck) : ∀ (p : List Nat) (f : Nat → Int), keepsP l f p → ∀ k, k < p.length → p.getD k 0 < l.length ∧ fallOf l (hiOf l) (runF l (fun _ => hiOf l) f p k) l.length < 0
  | [], _, _, k, hk => by simp at hk
  | t :: r, f, h, 0, _ => ⟨h.1, h.2.1⟩
  | t :: r, f, h, k + 1, hk => by
    have := keeps_at l r _ h.2.2 k (by simpa using hk)
    rw [runF_shift]
    exact this

/-- The bounds of a barrel. -/
theorem ck_bounds {l : List Ck} (h : yardB l = true) {j : Nat} (hj : j < l.length) : 0 ≤ levelOf l j ∧ levelOf l j ≤ fullOf l j ∧ fullOf l j ≤ 1000 ∧ 0 ≤ lineOf l j ∧ lineOf l j ≤ fullOf l j ∧ 0 ≤ l[j].lo ∧ l[j].lo ≤ l[j].hi ∧ hiOf l j ≤ 1000 ∧ hiOf l j = l[j].hi := by
  unfold yardB at h
  rw [Bool.and_eq_true] at h
  have h2 := List.all_eq_true.1 h.2 _ (List.getElem_mem hj)
  unfold ckB at h2
  simp only [Bool.and_eq_true] at h2
  obtain ⟨⟨⟨a, b⟩, c⟩, d⟩ := h2
  have a' := inB_true a
  have b' := inB_true b
  have c' := inB_true c
  unfold spanTo1 at d
  simp only [Bool.and_eq_true, decide_eq_true_eq] at d
  rw [levelOf_get hj, fullOf_get hj, lineOf_get hj, hiOf_get hj]
  exact ⟨b'.1, b'.2, a'.2, c'.1, c'.2, d.1.1, d.1.2, d.2, rfl⟩
theorem yard_len {l : List Ck} (h : yardB l = true) : 1 ≤ l.length ∧ l.length ≤ 4 := by
  unfold yardB at h
  rw [Bool.and_eq_true] at h
  have := inB_true h.1
  omega

/-- Levels within their bounds. -/
def Within (l : List Ck) (f : Nat → Int) : Prop := ∀ j, j < l.length → 0 ≤ f j ∧ f j ≤ fullOf l j
theorem within_begin {l : List Ck} (h : yardB l = true) : Within l (levelOf l) := fun j hj => by
  have := ck_bounds h hj
  omega
theorem within_step {l : List Ck} (h : yardB l = true) {x f : Nat → Int} (hx : ∀ j, j < l.length → 0 ≤ x j) (hf : Within l f) (t : Nat) : Within l (stepF l x f t) := fun j hj => by
  have hb := ck_bounds h hj
  have hfj := hf j hj
  have hxj := hx j hj
  unfold stepF
  by_cases e : j = t
  · subst e; rw [if_pos rfl]; omega
  · rw [if_neg e]
    unfold leakF
    rw [if_pos hj]
    unfold lvl
    omega
theorem within_run {l : List Ck} (h : yardB l = true) {x : Nat → Nat → Int} {f : Nat → Int} (p : List Nat) (hx : ∀ m j, j < l.length → 0 ≤ x m j) (hf : Within l f) : ∀ k, Within l (runF l x f p k)
  | 0 => hf
  | k + 1 => within_step h (hx k) (within_run h p hx hf k) _

/-- Less leaks: higher levels. -/
theorem run_mono (l : List Ck) (x : Nat → Nat → Int) (f : Nat → Int) (p : List Nat) (hx : ∀ m j, j < l.length → x m j ≤ hiOf l j) : ∀ k j, j < l.length → runF l (fun _ => hiOf l) f p k j ≤ runF l x f p k j
  | 0, _, _ => Int.le_refl _
  | k + 1, j, hj => by
    have ih := run_mono l x f p hx k j hj
    have hxj := hx k j hj
    show stepF l (hiOf l) _ _ j ≤ stepF l (x k) _ _ j
    unfold stepF
    by_cases e : j = p.getD k 0
    · rw [if_pos e, if_pos e]; exact Int.le_refl _
    · rw [if_neg e, if_neg e]
      unfold leakF
      rw [if_pos hj, if_pos hj]
      unfold lvl
      omega
/-- No barrel falls, whatever leaks. -/
theorem run_holds {l : List Ck} (x : Nat → Nat → Int) {p : List Nat} (hp : keepsP l (levelOf l) p) (hx : ∀ m j, j < l.length → x m j ≤ hiOf l j) {k : Nat} (hk : k < p.length) : fallOf l (x k) (runF l x (levelOf l) p k) l.length = -1 := by
  have h1 := (keeps_at l p _ hp k hk).2
  have h2 := (fall_none l (hiOf l) _ l.length).1 h1
  have h3 : fallOf l (x k) (runF l x (levelOf l) p k) l.length < 0 := by
    rw [fall_none]
    intro j hj
    have a1 := h2 j hj
    have a2 := run_mono l x (levelOf l) p hx k j hj
    have a3 := hx k j hj
    unfold lvl at a1 ⊢
    omega
  have := (fallOf_range l (x k) (runF l x (levelOf l) p k) l.length).1
  omega
/-- Behind a month all stand at their lines or above. -/
theorem run_above {l : List Ck} (h : yardB l = true) (x : Nat → Nat → Int) {p : List Nat} (hp : keepsP l (levelOf l) p) (hx : ∀ m j, j < l.length → x m j ≤ hiOf l j) (h0 : 0 < p.length) {j : Nat} (hj : j < l.length) : lineOf l j ≤ runF l x (levelOf l) p p.length j := by
  obtain ⟨k, hk⟩ : ∃ k, p.length = k + 1 := ⟨p.length - 1, by omega⟩
  have h1 := run_holds x hp hx (k := k) (by omega)
  have h2 := (fall_none l (x k) (runF l x (levelOf l) p k) l.length).1 (by omega) j hj
  have hb := ck_bounds h hj
  rw [hk]
  show _ ≤ stepF l (x k) _ _ j
  unfold stepF
  by_cases e : j = p.getD k 0
  · rw [if_pos e, ← e]; omega
  · rw [if_neg e]
    unfold leakF
    rw [if_pos hj]
    exact h2

end Go.Proofs.Ythpllmefbhjmmaa
