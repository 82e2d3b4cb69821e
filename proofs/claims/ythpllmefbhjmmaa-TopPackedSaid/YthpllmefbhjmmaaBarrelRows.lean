/-
  Rows of cells that read as barrels.
-/
import Derived.Test.YthpllmefbhjmmaaPromise
import Derived.Laws.AppendOwn
namespace Go.Proofs.Ythpllmefbhjmmaa
open Go.RowKit Go.Maps Plain

/-- A barrel's cells; those of barrels. -/
def brCells (m : Br) : List Value := [.int .i64 m.b0, .int .i64 m.b1, .int .i64 m.b2, .int .i64 m.b3]
def cellsB (ms : List Br) : List Value := ms.flatMap brCells
theorem cellsB_length : ∀ ms : List Br, (cellsB ms).length = ms.length * 4
  | [] => rfl
  | m :: ms => by
    have := cellsB_length ms
    unfold cellsB at this ⊢
    rw [List.flatMap_cons, List.length_append, this, List.length_cons]
    have : (brCells m).length = 4 := rfl
    omega
theorem cellsB_append (a b : List Br) : cellsB (a ++ b) = cellsB a ++ cellsB b := by unfold cellsB; rw [List.flatMap_append]
theorem cellsB_one (ms : List Br) : ∀ u ∈ cellsB ms, u.oneCell' = true := by
  intro u hu
  unfold cellsB at hu
  obtain ⟨m, _, h⟩ := List.mem_flatMap.1 hu
  simp only [brCells, List.mem_cons, List.not_mem_nil, or_false] at h
  rcases h with rfl | rfl | rfl | rfl <;> rfl
theorem cellsB_get : ∀ (ms : List Br) (i : Nat) (m : Br) (r : Nat), ms[i]? = some m → r < 4 → (cellsB ms)[i * 4 + r]? = (brCells m)[r]?
  | [], i, m, r, h, _ => by simp at h
  | a :: ms, 0, m, r, h, hr => by
    simp at h; subst h
    unfold cellsB
    rw [List.flatMap_cons, Nat.zero_mul, Nat.zero_add, List.getElem?_append_left (by show r < 4; omega)]
  | a :: ms, i + 1, m, r, h, hr => by
    have := cellsB_get ms i m r (by simpa using h) hr
    unfold cellsB at this ⊢
    rw [List.flatMap_cons, List.getElem?_append_right (by show 4 ≤ _; omega), ← this]
    congr 1
    show (i + 1) * 4 + r - 4 = _
    omega

/-- Barrels of a slice, as cells that can be appended. -/
theorem BrsAt.news {w : World} {ms : List Br} {b off cap : Nat} (h : BrsAt w (.slice (some ⟨b, off, none⟩) ms.length cap) ms) : ∀ j u, (cellsB ms)[j]? = some u → w.cell? ((⟨b, off, none⟩ : Addr).add j) = some u := by
  obtain ⟨a, c, hv, hm⟩ := h
  injection hv with ha _ _
  subst ha
  intro j u hu
  have hadd : (⟨b, off, none⟩ : Addr).add j = ⟨b, off + j, none⟩ := by unfold Addr.add; split <;> simp_all
  rw [hadd]
  have hj : j < ms.length * 4 := by
    have := (List.getElem?_eq_some_iff.1 hu).1
    rwa [cellsB_length] at this
  have hi : j / 4 < ms.length := by omega
  obtain ⟨b', off', hbo, hc⟩ := hm (j / 4) ms[j / 4] (List.getElem?_eq_getElem hi)
  injection hbo with hbo
  injection hbo with h1 h2
  subst h1; subst h2
  have hg := cellsB_get ms (j / 4) ms[j / 4] (j % 4) (List.getElem?_eq_getElem hi) (Nat.mod_lt _ (by omega))
  rw [show j / 4 * 4 + j % 4 = j by omega, hu] at hg
  obtain ⟨c0, c1, c2, c3⟩ := hc
  generalize ms[j / 4] = m at *
  have hr : j % 4 = 0 ∨ j % 4 = 1 ∨ j % 4 = 2 ∨ j % 4 = 3 := by omega
  rcases hr with e | e | e | e <;> rw [e] at hg <;> simp only [brCells, List.getElem?_cons_zero, List.getElem?_cons_succ, Option.some.injEq] at hg <;> subst hg
  · rw [show off + j = off + j / 4 * 4 by omega]; exact c0
  · rw [show off + j = off + j / 4 * 4 + 1 by omega]; exact c1
  · rw [show off + j = off + j / 4 * 4 + 2 by omega]; exact c2
  · rw [show off + j = off + j / 4 * 4 + 3 by omega]; exact c3

/-- A row of the call's own that holds barrels' cells reads as these barrels. -/
theorem brs_of_own {w : World} {base g n cap : Nat} {ms : List Br} (hn : n = ms.length) (h : w.ownsRow base 24 4 (.slice (some ⟨g, 0, none⟩) n cap) n (cellsB ms)) : BrsAt w (.slice (some ⟨g, 0, none⟩) n cap) ms := by
  subst hn
  refine ⟨_, cap, rfl, fun i m hi => ⟨g, 0, rfl, ?_⟩⟩
  rcases h.2 with ⟨hv, _⟩ | ⟨g', cap', cur, hv, _, hh, _, _, _, ht⟩
  · cases hv
  injection hv with hv1 _ _
  injection hv1 with hv1
  injection hv1 with hg _
  subst hg
  have key : ∀ r u, r < 4 → (brCells m)[r]? = some u → w.cell? ⟨g, 0 + i * 4 + r, none⟩ = some u := by
    intro r u hr hu
    have := cellsB_get ms i m r hi hr
    rw [hu, ← ht] at this
    rw [List.getElem?_take] at this
    split at this
    · rw [Nat.zero_add, cell_of_row w g _ cur 24 (0, 0) hh]; simpa using this
    · cases this
  exact ⟨key 0 _ (by omega) rfl, key 1 _ (by omega) rfl, key 2 _ (by omega) rfl, key 3 _ (by omega) rfl⟩

end Go.Proofs.Ythpllmefbhjmmaa
