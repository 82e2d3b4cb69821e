/-
  Plain laws on brands: the first that a barrel reaches, looked for from behind; a brand more behind the others. Rows of cells that read as brands.
-/
import Derived.Test.YthpllmefbhjmmaaRefGraded
import Derived.Laws.AppendOwn
namespace Go.Proofs.Ythpllmefbhjmmaa
open Go.RowKit Go.Maps Plain

/-- The first brand from k on that is reached; -1: none. -/
def fstFrom (ms : List Mk) (x : Br) (k : Nat) : Int := match (ms.drop k).findIdx? (reachB · x) with
  | some j => ((k + j : Nat) : Int)
  | none => -1
theorem fst_end (ms : List Mk) (x : Br) : fstFrom ms x ms.length = -1 := by unfold fstFrom; rw [List.drop_length]; rfl
theorem fst_step {ms : List Mk} {x : Br} {k : Nat} (h : k < ms.length) : fstFrom ms x k = if reachB ms[k] x = true then (k : Int) else fstFrom ms x (k + 1) := by
  unfold fstFrom
  rw [List.drop_eq_getElem_cons h, List.findIdx?_cons]
  cases hr : reachB ms[k] x with
  | true => simp
  | false =>
    simp only [Bool.false_eq_true, if_false]
    cases (ms.drop (k + 1)).findIdx? (reachB · x) with
    | none => rfl
    | some j => simp; omega

theorem find_same (x : Br) : ∀ ms : List Mk, (∀ m ∈ ms, markB m = true) → ms.findIdx? (fun m => !belowB m x) = ms.findIdx? (reachB · x)
  | [], _ => rfl
  | m :: ms, h => by
    rw [List.findIdx?_cons, List.findIdx?_cons, find_same x ms (fun m hm => h m (List.mem_cons_of_mem _ hm)), below_reach (h m List.mem_cons_self)]
    simp

/-- What 'Grade' answers, where brands and barrel are valid. -/
theorem gradeR_cases (ms : List Mk) (x : Br) :
    (gradeR ms x = (0, 70)) ∨ (gradeR ms x = (0, 73)) ∨
    (1 ≤ ms.length ∧ ms.length ≤ 5 ∧ marksB ms = true ∧ barB x = true ∧ ∃ n e : Int, gradeR ms x = (n, e) ∧ (e = 0 ∧ fstFrom ms x 0 = n ∧ 0 ≤ n ∧ n < ms.length ∨ e = 4 ∧ n = 0 ∧ fstFrom ms x 0 = -1)) := by
  unfold gradeR
  cases h1 : marksB ms with
  | false => exact .inl (by simp)
  | true =>
    cases h2 : barB x with
    | false => exact .inr (.inl (by simp))
    | true =>
      refine .inr (.inr ?_)
      unfold marksB at h1
      rw [Bool.and_eq_true] at h1
      obtain ⟨g1, g2⟩ := inB_true h1.1
      refine ⟨by omega, by omega, rfl, rfl, ?_⟩
      have hf : firstOf ms x = ms.findIdx? (reachB · x) := find_same x ms (fun m hm => List.all_eq_true.1 h1.2 m hm)
      have h0 : fstFrom ms x 0 = match firstOf ms x with | some j => (j : Int) | none => -1 := by
        unfold fstFrom; rw [List.drop_zero, hf]; cases ms.findIdx? (reachB · x) <;> simp
      rw [if_pos rfl, if_pos rfl]
      cases hfo : firstOf ms x with
      | some i =>
        rw [hfo] at h0
        have hi : i < ms.length := by
          unfold firstOf at hfo
          rw [List.findIdx?_eq_some_iff_getElem] at hfo
          exact hfo.1
        exact ⟨i, 0, rfl, .inl ⟨rfl, h0, by omega, by omega⟩⟩
      | none =>
        rw [hfo] at h0
        exact ⟨0, 4, rfl, .inr ⟨rfl, rfl, h0⟩⟩

theorem gradeR_more {ms : List Mk} {x : Br} {last : Mk} {n e : Int} (hm : marksB ms = true) (hb : barB x = true) (h : gradeR ms x = (n, e)) :
    gradeR (ms ++ [last]) x = (0, 70) ∨ (e ≠ 0 ∧ (gradeR (ms ++ [last]) x = (0, 4) ∨ gradeR (ms ++ [last]) x = ((ms.length : Int), 0))) ∨ (e = 0 ∧ gradeR (ms ++ [last]) x = (n, 0)) := by
  unfold gradeR at h ⊢
  rw [hm, hb, if_pos rfl, if_pos rfl] at h
  cases h1 : marksB (ms ++ [last]) with
  | false => exact .inl (by simp)
  | true =>
    right
    rw [hb, if_pos rfl, if_pos rfl]
    have hf : firstOf (ms ++ [last]) x = (firstOf ms x).or (([last].findIdx? fun m => !belowB m x).map (· + ms.length)) := by
      unfold firstOf; rw [List.findIdx?_append]
    rw [hf]
    cases hfo : firstOf ms x with
    | some i =>
      rw [hfo] at h
      simp only [Prod.mk.injEq] at h
      exact .inr ⟨h.2.symm, by simp [h.1]⟩
    | none =>
      rw [hfo] at h
      simp only [Prod.mk.injEq] at h
      refine .inl ⟨by omega, ?_⟩
      rw [List.findIdx?_cons]
      cases belowB last x <;> simp

/-- A brand's cells; those of brands. -/
def mkCells (m : Mk) : List Value := [.int .i64 m.s0.lo, .int .i64 m.s0.hi, .int .i64 m.s1.lo, .int .i64 m.s1.hi, .int .i64 m.s2.lo, .int .i64 m.s2.hi, .int .i64 m.s3.lo, .int .i64 m.s3.hi]
def cellsL (ms : List Mk) : List Value := ms.flatMap mkCells
theorem cellsL_length : ∀ ms : List Mk, (cellsL ms).length = ms.length * 8
  | [] => rfl
  | m :: ms => by
    have := cellsL_length ms
    unfold cellsL at this ⊢
    rw [List.flatMap_cons, List.length_append, this, List.length_cons]
    have : (mkCells m).length = 8 := rfl
    omega
theorem cellsL_append (a b : List Mk) : cellsL (a ++ b) = cellsL a ++ cellsL b := by unfold cellsL; rw [List.flatMap_append]
theorem cellsL_one (ms : List Mk) : ∀ u ∈ cellsL ms, u.oneCell' = true := by
  intro u hu
  unfold cellsL at hu
  obtain ⟨m, _, h⟩ := List.mem_flatMap.1 hu
  simp only [mkCells, List.mem_cons, List.not_mem_nil, or_false] at h
  rcases h with rfl | rfl | rfl | rfl | rfl | rfl | rfl | rfl <;> rfl
theorem cellsL_get : ∀ (ms : List Mk) (i : Nat) (m : Mk) (r : Nat), ms[i]? = some m → r < 8 → (cellsL ms)[i * 8 + r]? = (mkCells m)[r]?
  | [], i, m, r, h, _ => by simp at h
  | a :: ms, 0, m, r, h, hr => by
    simp at h; subst h
    unfold cellsL
    rw [List.flatMap_cons, Nat.zero_mul, Nat.zero_add, List.getElem?_append_left (by show r < 8; omega)]
  | a :: ms, i + 1, m, r, h, hr => by
    have := cellsL_get ms i m r (by simpa using h) hr
    unfold cellsL at this ⊢
    rw [List.flatMap_cons, List.getElem?_append_right (by show 8 ≤ _; omega), ← this]
    congr 1
    show (i + 1) * 8 + r - 8 = _
    omega

/-- Brands of a slice, as cells that can be appended. -/
theorem MarksAt.news {w : World} {ms : List Mk} {b off cap : Nat} (h : MarksAt w (.slice (some ⟨b, off, none⟩) ms.length cap) ms) : ∀ j u, (cellsL ms)[j]? = some u → w.cell? ((⟨b, off, none⟩ : Addr).add j) = some u := by
  obtain ⟨a, c, hv, hm⟩ := h
  injection hv with ha _ _
  subst ha
  intro j u hu
  have hadd : (⟨b, off, none⟩ : Addr).add j = ⟨b, off + j, none⟩ := by unfold Addr.add; split <;> simp_all
  rw [hadd]
  have hj : j < ms.length * 8 := by
    have := (List.getElem?_eq_some_iff.1 hu).1
    rwa [cellsL_length] at this
  have hi : j / 8 < ms.length := by omega
  obtain ⟨b', off', hbo, hc⟩ := hm (j / 8) ms[j / 8] (List.getElem?_eq_getElem hi)
  injection hbo with hbo
  injection hbo with h1 h2
  subst h1; subst h2
  have hg := cellsL_get ms (j / 8) ms[j / 8] (j % 8) (List.getElem?_eq_getElem hi) (Nat.mod_lt _ (by omega))
  rw [show j / 8 * 8 + j % 8 = j by omega, hu] at hg
  obtain ⟨c0, c1, c2, c3, c4, c5, c6, c7⟩ := hc
  generalize ms[j / 8] = m at *
  have hr : j % 8 = 0 ∨ j % 8 = 1 ∨ j % 8 = 2 ∨ j % 8 = 3 ∨ j % 8 = 4 ∨ j % 8 = 5 ∨ j % 8 = 6 ∨ j % 8 = 7 := by omega
  rcases hr with e | e | e | e | e | e | e | e <;> rw [e] at hg <;> simp only [mkCells, List.getElem?_cons_zero, List.getElem?_cons_succ, Option.some.injEq] at hg <;> subst hg
  · rw [show off + j = off + j / 8 * 8 by omega]; exact c0
  · rw [show off + j = off + j / 8 * 8 + 1 by omega]; exact c1
  · rw [show off + j = off + j / 8 * 8 + 2 by omega]; exact c2
  · rw [show off + j = off + j / 8 * 8 + 3 by omega]; exact c3
  · rw [show off + j = off + j / 8 * 8 + 4 by omega]; exact c4
  · rw [show off + j = off + j / 8 * 8 + 5 by omega]; exact c5
  · rw [show off + j = off + j / 8 * 8 + 6 by omega]; exact c6
  · rw [show off + j = off + j / 8 * 8 + 7 by omega]; exact c7

/-- A row of the call's own that holds brands' cells reads as these brands. -/
theorem marks_of_own {w : World} {base g n cap : Nat} {ms : List Mk} (hn : n = ms.length) (h : w.ownsRow base 62 8 (.slice (some ⟨g, 0, none⟩) n cap) n (cellsL ms)) : MarksAt w (.slice (some ⟨g, 0, none⟩) n cap) ms := by
  subst hn
  refine ⟨_, cap, rfl, fun i m hi => ⟨g, 0, rfl, ?_⟩⟩
  rcases h.2 with ⟨hv, _⟩ | ⟨g', cap', cur, hv, _, hh, _, _, _, ht⟩
  · cases hv
  injection hv with hv1 _ _
  injection hv1 with hv1
  injection hv1 with hg _
  subst hg
  have key : ∀ r u, r < 8 → (mkCells m)[r]? = some u → w.cell? ⟨g, 0 + i * 8 + r, none⟩ = some u := by
    intro r u hr hu
    have := cellsL_get ms i m r hi hr
    rw [hu, ← ht] at this
    rw [List.getElem?_take] at this
    split at this
    · rw [Nat.zero_add, cell_of_row w g _ cur 62 (0, 0) hh]; simpa using this
    · cases this
  exact ⟨key 0 _ (by omega) rfl, key 1 _ (by omega) rfl, key 2 _ (by omega) rfl, key 3 _ (by omega) rfl, key 4 _ (by omega) rfl, key 5 _ (by omega) rfl, key 6 _ (by omega) rfl, key 7 _ (by omega) rfl⟩

end Go.Proofs.Ythpllmefbhjmmaa
