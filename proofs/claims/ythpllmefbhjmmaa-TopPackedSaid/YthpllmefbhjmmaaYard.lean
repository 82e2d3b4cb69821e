/-
  Barrels of a yard, and their levels at first.
-/
import Derived.Test.YthpllmefbhjmmaaSame
namespace Go.Proofs.Ythpllmefbhjmmaa
open Go.RowKit Go.Maps Plain
attribute [local go_sem] Oper.semAt_some

/-- A barrel of a yard. -/
structure Ck where
  level : Int
  full : Int
  line : Int
  lo : Int
  hi : Int

/-- Five cells that read as a barrel of a yard. -/
def CkAt (w : World) (b off : Nat) (c : Ck) : Prop :=
  w.cell? ⟨b, off, none⟩ = some (.int .i64 c.level) ∧ w.cell? ⟨b, off + 1, none⟩ = some (.int .i64 c.full) ∧ w.cell? ⟨b, off + 2, none⟩ = some (.int .i64 c.line) ∧ w.cell? ⟨b, off + 3, none⟩ = some (.int .i64 c.lo) ∧ w.cell? ⟨b, off + 4, none⟩ = some (.int .i64 c.hi)
theorem CkAt.kept {w w' : World} {b off : Nat} {c : Ck} (h : CkAt w b off c) (hb : w'.heap[b]? = w.heap[b]?) : CkAt w' b off c := by
  have k : ∀ i, w'.cell? ⟨b, i, none⟩ = w.cell? ⟨b, i, none⟩ := fun i => World.cell?_of_block (a := ⟨b, i, none⟩) hb
  obtain ⟨h0, h1, h2, h3, h4⟩ := h
  exact ⟨(k _).trans h0, (k _).trans h1, (k _).trans h2, (k _).trans h3, (k _).trans h4⟩
theorem CkAt.lt {w : World} {b off : Nat} {c : Ck} (h : CkAt w b off c) : b < w.heap.size := World.block_lt_of_cell? w _ h.1
/-- A slice of barrels of a yard. -/
def CksAt (w : World) (v : Value) (l : List Ck) : Prop :=
  ∃ a cap, v = .slice a l.length cap ∧ ∀ i c, l[i]? = some c → ∃ b off, a = some ⟨b, off, none⟩ ∧ CkAt w b (off + i * 5) c
theorem CksAt.below {w w' : World} {v : Value} {l : List Ck} (h : CksAt w v l) (hB : Below w.heap.size w w') : CksAt w' v l := by
  obtain ⟨a, cap, hv, hm⟩ := h
  refine ⟨a, cap, hv, fun i c hi => ?_⟩
  obtain ⟨b, off, ha, hc⟩ := hm i c hi
  exact ⟨b, off, ha, hc.kept (hB.block _ hc.lt)⟩

/-- The level of a barrel; 0: there is none. -/
def levelOf (l : List Ck) (i : Nat) : Int := match l[i]? with
  | some c => c.level
  | none => 0
theorem levelOf_get {l : List Ck} {i : Nat} (h : i < l.length) : levelOf l i = l[i].level := by unfold levelOf; rw [List.getElem?_eq_getElem h]

/-- Four cells. -/
def FourAt (w : World) (B : Nat) (f : Nat → Int) : Prop := ∀ j, j < 4 → w.cell? ⟨B, j, none⟩ = some (.int .i64 (f j)) ∧ w.frozen? ⟨B, j, none⟩ = false
theorem FourAt.set {w : World} {B : Nat} {f : Nat → Int} (h : FourAt w B f) (i : Nat) (x : Int) : FourAt (w.setCell ⟨B, i, none⟩ (.int .i64 x)) B (fun j => if j = i then x else f j) := by
  intro j hj
  obtain ⟨h1, h2⟩ := h j hj
  refine ⟨?_, by rw [World.frozen?_setCell]; exact h2⟩
  show (w.setCell ⟨B, i, none⟩ (.int .i64 x)).cell? ⟨B, j, none⟩ = some (.int .i64 (if j = i then x else f j))
  by_cases e : j = i
  · subst e; rw [if_pos rfl]; exact World.cell?_setCell_same _ _ _ h1
  · rw [if_neg e, World.cell?_setCell_other _ _ _ _ (fun he => by injection he with _ he _; omega)]; exact h1
theorem FourAt.kept {w w' : World} {B : Nat} {f : Nat → Int} (h : FourAt w B f) (hb : w'.heap[B]? = w.heap[B]?) : FourAt w' B f := fun j hj =>
  ⟨(World.cell?_of_block (a := ⟨B, j, none⟩) hb).trans (h j hj).1, (World.frozen?_of_block (a := ⟨B, j, none⟩) hb).trans (h j hj).2⟩

set_option maxRecDepth 100000 in
set_option maxHeartbeats 800000 in
theorem begin92 (v : Value) (l : List Ck) (w : World) (hl : CksAt w v l) (hlen : l.length ≤ 4) :
    Calls Try.prog 92 #[v] w fun e w' => e = .returned (.agg #[.int .i64 (levelOf l 0), .int .i64 (levelOf l 1), .int .i64 (levelOf l 2), .int .i64 (levelOf l 3)]) ∧ Below w.heap.size w w' := by
  obtain ⟨a, cap, rfl, hm⟩ := hl
  have Hm := Lib.hid hm
  clear hm
  have hB0 : Below w.heap.size w ((w.alloc (.cells #[.int .i64 0, .int .i64 0, .int .i64 0, .int .i64 0] 134)).alloc (.cells #[.int .i64 0, .int .i64 0, .int .i64 0, .int .i64 0] 134)) := (below_alloc _).alloc (by simp) _
  have key : ∀ W : World, FourAt (W.alloc (.cells #[.int .i64 0, .int .i64 0, .int .i64 0, .int .i64 0] 134)) W.heap.size (fun _ => 0) := fun W j hj => by
    rcases (by omega : j = 0 ∨ j = 1 ∨ j = 2 ∨ j = 3) with rfl | rfl | rfl | rfl <;> exact ⟨by go_simp, by go_simp⟩
  have hF := key (w.alloc (.cells #[.int .i64 0, .int .i64 0, .int .i64 0, .int .i64 0] 134))
  rw [World.size_alloc] at hF
  have hR := (key w).kept (Below.heap_alloc (w.alloc (.cells #[.int .i64 0, .int .i64 0, .int .i64 0, .int .i64 0] 134)) (.cells #[.int .i64 0, .int .i64 0, .int .i64 0, .int .i64 0] 134) w.heap.size (by simp))
  have HF := Lib.hid hF
  have HR := Lib.hid hR
  have HB := Lib.hid hB0
  clear key hF hR hB0
  go_enter Try.func92, Try.ntmps92
  go_wp2_with fail
  go_loopw [7] (fun i wr => ∃ k : Nat, k ≤ l.length ∧ i = .int .i64 k ∧ FourAt wr (w.heap.size + 1) (fun j => if j < k then levelOf l j else 0) ∧ FourAt wr w.heap.size (fun _ => 0) ∧ Below w.heap.size w wr) (fun i _ => l.length - (intOf i).toNat)
  case atStart => exact ⟨0, by omega, rfl, by simpa using HF.out, HR.out, HB.out⟩
  case round =>
    obtain ⟨k, hk, rfl, hF, hR, hB⟩ := hrel
    by_cases hlt : k < l.length
    · have hk1 : (k : Int) < (l.length : Int) := by omega
      have hk0 : (0 : Int) ≤ (k : Int) := by omega
      have hk4 : (k : Int) < 4 := by omega
      obtain ⟨b, off, rfl, hc⟩ := Hm.out k l[k] (List.getElem?_eq_getElem hlt)
      obtain ⟨c0, _⟩ := hc.kept (hB.block _ hc.lt)
      rw [← levelOf_get hlt] at c0
      obtain ⟨d0, d1⟩ := hF k (by omega)
      have hS := hF.set k (levelOf l k)
      have hR2 := hR.kept (w' := wr.setCell ⟨w.heap.size + 1, k, none⟩ (.int .i64 (levelOf l k))) (Below.heap_setCell _ _ _ _ (by simp))
      have hB2 := hB.setCell (p := ⟨w.heap.size + 1, k, none⟩) (by simp) (.int .i64 (levelOf l k))
      have hS2 : FourAt (wr.setCell ⟨w.heap.size + 1, k, none⟩ (.int .i64 (levelOf l k))) (w.heap.size + 1) (fun j => if j < k + 1 then levelOf l j else 0) := by
        intro j hj
        have := hS j hj
        have e : (if j = k then levelOf l k else if j < k then levelOf l j else 0) = if j < k + 1 then levelOf l j else 0 := by
          by_cases e : j = k
          · subst e; simp
          · rw [if_neg e]; by_cases e2 : j < k
            · rw [if_pos e2, if_pos (by omega)]
            · rw [if_neg e2, if_neg (by omega)]
        show _ = some (Value.int .i64 (if j < k + 1 then levelOf l j else 0)) ∧ _
        rw [← e]; exact this
      have HS := Lib.hid hS2
      have HR2 := Lib.hid hR2
      have HB2 := Lib.hid hB2
      clear hS hS2 hR2 hB2 hF hR hB hc
      go_wp2_with fail
      go_roundw
      case rel => exact ⟨k + 1, by omega, by go_num, HS.out, HR2.out, HB2.out⟩
      case measure => simp [intOf]; omega
    · obtain rfl : k = l.length := by omega
      have e : ∀ j, (if j < l.length then levelOf l j else 0) = levelOf l j := fun j => by
        by_cases h : j < l.length
        · rw [if_pos h]
        · rw [if_neg h]; unfold levelOf; rw [List.getElem?_eq_none (by omega)]
      obtain ⟨g0, _⟩ := hF 0 (by omega)
      obtain ⟨g1, _⟩ := hF 1 (by omega)
      obtain ⟨g2, _⟩ := hF 2 (by omega)
      obtain ⟨g3, _⟩ := hF 3 (by omega)
      simp only [e] at g0 g1 g2 g3
      obtain ⟨r0, s0⟩ := hR 0 (by omega)
      obtain ⟨r1, s1⟩ := hR 1 (by omega)
      obtain ⟨r2, s2⟩ := hR 2 (by omega)
      obtain ⟨r3, s3⟩ := hR 3 (by omega)
      have HB2 := Lib.hid hB
      clear hF hR hB e
      go_wp2_with fail
      refine bodyPost_ret (v := .agg #[.int .i64 (levelOf l 0), .int .i64 (levelOf l 1), .int .i64 (levelOf l 2), .int .i64 (levelOf l 3)]) (by simp [results, Try.results92, go_sem, r0, r1, r2, r3]) rfl ⟨rfl, ?_⟩
      exact (((HB2.out.setCell (Nat.le_refl _) _).setCell (Nat.le_refl _) _).setCell (Nat.le_refl _) _).setCell (Nat.le_refl _) _

end Go.Proofs.Ythpllmefbhjmmaa
