/-
  With how many choices how many of the opened barrels are below: 'found', 'passes'.
-/
import Derived.Test.YthpllmefbhjmmaaCount
namespace Go.Proofs.Ythpllmefbhjmmaa
open Go.RowKit Go.Maps Plain

theorem Memo.setCell {w : World} {m : Nat} (h : Memo w m) {a : Addr} (ha : m ≠ a.block) (u : Value) : Memo (w.setCell a u) m := by
  obtain ⟨D, h1, h2⟩ := h
  exact ⟨D, h1.setCell ha u, h2⟩

theorem grown_setCell {a w : World} {row : Option Nat} (h : a.grownBy w row) {p : Addr} (hp : a.heap.size ≤ p.block) (u : Value) : a.grownBy (w.setCell p u) row :=
  ⟨h.os, h.tape, h.output, by simpa [World.setCell] using h.size, fun i hi hne => (Below.heap_setCell w p u i (by omega)).trans (h.block i hi hne)⟩

abbrev lotV (N : Int) (m : Nat) : Value := .agg #[.int .i64 N, .map (some m)]

abbrev FoundS (w : World) (m : Nat) (N : Int) (w' : World) : Prop :=
  w'.cell? ⟨w.heap.size, 0, none⟩ = some (.int .i64 N) ∧ w'.cell? ⟨w.heap.size, 1, none⟩ = some (.map (some m)) ∧ Memo w' m ∧ w.grownBy w' (some m) ∧ w'.cell? ⟨w.heap.size + 1, 0, none⟩ = some (.int .i64 0) ∧ w'.cell? ⟨w.heap.size + 1, 1, none⟩ = some (.int .i64 0) ∧ w'.frozen? ⟨w.heap.size + 1, 0, none⟩ = false ∧ w'.frozen? ⟨w.heap.size + 1, 1, none⟩ = false

theorem FoundS.step {w : World} {m : Nat} {N : Int} {wa wb : World} (h : FoundS w m N wa) (hM : Memo wb m) (hG : wa.grownBy wb (some m)) : FoundS w m N wb := by
  obtain ⟨h1, h2, h5, h6, h7, h8, h9, h10⟩ := h
  have k : ∀ {a : Addr} {v : Value}, wa.cell? a = some v → wb.cell? a = some v := fun hc => hG.cell hc (fun e => h5.noCell hc (by injection e))
  have hne : ∀ {a : Addr} {v : Value}, wa.cell? a = some v → wb.frozen? a = wa.frozen? a := fun {a} {v} hc =>
    World.frozen?_of_block (hG.block a.block (World.block_lt_of_cell? wa a hc) (fun e => h5.noCell hc (by injection e)))
  exact ⟨k h1, k h2, hM, h6.trans hG, k h7, k h8, (hne h7).trans h9, (hne h8).trans h10⟩

theorem FoundS.drew {w : World} {m : Nat} {N : Int} {wa : World} (h : FoundS w m N wa) : FoundS w m N wa.drew :=
  ⟨h.1, h.2.1, h.2.2.1, grown_drew h.2.2.2.1, h.2.2.2.2.1, h.2.2.2.2.2.1, h.2.2.2.2.2.2⟩

theorem FoundS.start {w : World} {m : Nat} {N : Int} (hM : Memo w m) :
    FoundS w m N ((w.alloc (.cells #[.int .i64 N, .map (some m)] 103)).alloc (.cells #[.int .i64 0, .int .i64 0] 107)) := by
  refine ⟨by go_simp, by go_simp, (hM.kept (World.grownBy_alloc _ _ none) (by simp)).kept (World.grownBy_alloc _ _ none) (by simp), (World.grownBy_alloc _ _ _).trans (World.grownBy_alloc _ _ _), by go_simp, by go_simp, by go_simp, by go_simp⟩

theorem wrap_term {N b n low : Int} (j : Nat) (hN : N ≤ 40) (hb0 : 0 ≤ b) (hb : b ≤ N) (hj : j ≤ 40) :
    IntKind.i64.wrap (sumN (term N b n) low j + IntKind.i64.wrap (cnt b (low + j) * cnt (N - b) (n - (low + j)))) = sumN (term N b n) low (j + 1) := by
  have h1 := term_le N b n (low + j) hb0 hb hN
  have h2 := term_nonneg N b n (low + j)
  have h3 := sumTo_le N b n low hb0 hb hN j (by omega)
  have h4 := sumN_nonneg (term N b n) low (term_nonneg N b n) j
  have e : cnt b (low + j) * cnt (N - b) (n - (low + j)) = term N b n (low + j) := rfl
  have w1 : IntKind.i64.wrap (term N b n (low + j)) = term N b n (low + j) := IntWalk.i64_in _ (by omega)
  rw [e, w1, IntWalk.i64_in _ (by omega)]
  rfl

set_option maxRecDepth 100000 in
set_option maxHeartbeats 800000 in
theorem found_any (N b n low high : Int) (w : World) (m : Nat) (hN : N ≤ 40) (hb0 : 0 ≤ b) (hb : b ≤ N) (hn0 : 0 ≤ n) (hn : n ≤ N) (hl0 : 0 ≤ low) (hl : low ≤ high + 1) (hh : high ≤ n) (hM : Memo w m) :
    Calls Try.prog 77 #[lotV N m, .int .i64 b, .int .i64 n, .int .i64 low, .int .i64 high] w fun e w' =>
      e = .returned (.agg #[.int .i64 (fnd N b n low high), .int .i64 (cnt N n)]) ∧ Memo w' m ∧ w.grownBy w' (some m) := by
  have hw1 : IntKind.i64.wrap (N - b) = N - b := IntWalk.i64_in _ (by omega)
  have Hst := Lib.hid (FoundS.start (N := N) hM)
  go_enter Try.func77, Try.ntmps77
  go_wp2
  go_loopw [11, 12] (fun s k wr => ∃ j : Nat, low + j ≤ high + 1 ∧ k = .int .i64 (low + j) ∧ s = .int .i64 (sumN (term N b n) low j) ∧ FoundS w m N wr) (fun _ k _ => (high + 1 - intOf k).toNat)
  case atStart =>
    exact ⟨0, by omega, by simp, rfl, Hst.out⟩
  case round =>
    obtain ⟨j, hj, rfl, rfl, hS⟩ := hrel
    have Hs := Lib.hid hS
    obtain ⟨c1, c2, hMr, hGr, c3, c4, f1, f2⟩ := hS
    have hw2 : IntKind.i64.wrap (n - (low + j)) = n - (low + j) := IntWalk.i64_in _ (by omega)
    by_cases hlt : low + j ≤ high
    · have Hw := Lib.hid (wrap_term (N := N) (b := b) (n := n) (low := low) j hN hb0 hb (by omega))
      go_wp2
      go_region_held3 (fun w' => w'.cell? ⟨w.heap.size, 0, none⟩ = some (.int .i64 N) ∧ w'.cell? ⟨w.heap.size, 1, none⟩ = some (.map (some m)) ∧ Memo w' m ∧ w.grownBy w' (some m) ∧ w'.cell? ⟨w.heap.size + 1, 0, none⟩ = some (.int .i64 0) ∧ w'.cell? ⟨w.heap.size + 1, 1, none⟩ = some (.int .i64 0) ∧ w'.frozen? ⟨w.heap.size + 1, 0, none⟩ = false ∧ w'.frozen? ⟨w.heap.size + 1, 1, none⟩ = false)
        (first | exact FoundS.drew Hs.out | exact FoundS.step (by assumption) hM1 hG1)
        (first | (go_at_call 101; refine (count_any _ _ _ m (by omega) (by omega) (by omega) (by omega) (by go_split_ands; assumption)).mono ?_; rintro e w1 ⟨rfl, hM1, hG1⟩))
      have hS : FoundS w m N w1 := by assumption
      have Hs1 := Lib.hid hS
      clear hS hM1 hG1
      rw [Hw.out]
      go_wp2
      go_roundw
      case rel => exact ⟨j + 1, by omega, by go_num, rfl, Hs1.out⟩
      case measure => simp [intOf]; omega
    · have hlt' : high < low + j := by omega
      have He : Hid (fnd N b n low high = sumN (term N b n) low j) := by
        show fnd N b n low high = sumN (term N b n) low j
        unfold fnd; rw [show (high + 1 - low).toNat = j by omega]
      go_wp2_with (go_at_call 101; refine (count_any N n _ m (by omega) (by omega) (by omega) (by omega) (by assumption)).mono ?_; rintro e w1 ⟨rfl, hM1, hG1⟩; obtain ⟨d1, d2, hM2, hG2, d3, d4, d5, d6⟩ := FoundS.step Hs.out hM1 hG1; clear hM1 hG1)
      refine bodyPost_ret (v := .agg #[.int .i64 (sumN (term N b n) low j), .int .i64 (cnt N n)]) (by simp [results, Try.results77, go_sem, d3, d4]) rfl ⟨by rw [He.out], ?_, ?_⟩
      · exact (hM2.setCell (by have := hM.lt; simp; omega) _).setCell (by have := hM.lt; simp; omega) _
      · exact grown_setCell (grown_setCell hG2 (by simp) _) (by simp) _

end Go.Proofs.Ythpllmefbhjmmaa
