/-
  Whether a plan keeps a rule.
-/
import Derived.Test.YthpllmefbhjmmaaRule
namespace Go.Proofs.Ythpllmefbhjmmaa
open Go.RowKit Go.Maps Plain

/-- Is the rule kept if j barrels are below? -/
def keepsAt (N : Int) (r : Rl) (o a j : Int) : Bool :=
  !((decide (j ≤ r.g) && decide (fnd N j o 0 a * r.pi - r.po * cnt N o < 0)) || (decide (r.b ≤ j) && decide (0 < fnd N j o 0 a * r.fi - r.fo * cnt N o)))
/-- Does a plan keep a rule? -/
def keepsB (N : Int) (r : Rl) (o a : Int) : Bool := (List.range (N.toNat + 1)).all fun j => keepsAt N r o a j

theorem keepsB_true {N : Int} {r : Rl} {o a : Int} (hN : 0 ≤ N) (h : ∀ j : Nat, (j : Int) ≤ N → keepsAt N r o a j = true) : keepsB N r o a = true := by
  unfold keepsB
  rw [List.all_eq_true]
  intro j hj
  rw [List.mem_range] at hj
  exact h j (by omega)
theorem keepsB_false {N : Int} {r : Rl} {o a : Int} {j : Nat} (hj : (j : Int) ≤ N) (h : keepsAt N r o a j = false) : keepsB N r o a = false := by
  unfold keepsB
  rw [List.all_eq_false]
  exact ⟨j, by rw [List.mem_range]; omega, by simp [h]⟩

theorem compare_is {x : Int} (o i xo xi : Int) (w : World) (h0 : 0 ≤ o) (h1 : o ≤ 45079976738816) (h2 : 0 ≤ i) (h3 : i ≤ 1099511627776) (h4 : 0 ≤ xo) (h5 : xo ≤ 1000) (h6 : 0 ≤ xi) (h7 : xi ≤ 1000) (h : o * xi - xo * i = x) :
    Calls Try.prog 78 #[.agg #[.int .i64 o, .int .i64 i], .agg #[.int .i64 xo, .int .i64 xi]] w fun e w' => e = .returned (.int .i64 x) ∧ Below w.heap.size w w' := by
  rw [← h]; exact compare_any o i xo xi w h0 h1 h2 h3 h4 h5 h6 h7

abbrev planV (o a : Int) : Value := .agg #[.int .i64 o, .int .i64 a]

/-- The world in which the loop begins. -/
abbrev keepsW (w : World) (N : Int) (m : Nat) (r : Rl) (o a : Int) : World :=
  ((w.alloc (.cells #[.int .i64 N, .map (some m)] 103)).alloc (.cells #[.int .i64 r.g, .int .i64 r.po, .int .i64 r.pi, .int .i64 r.b, .int .i64 r.fo, .int .i64 r.fi] 39)).alloc (.cells #[.int .i64 o, .int .i64 a] 32)

/-- What holds at each round's head. -/
def KeepsS (w : World) (N : Int) (m : Nat) (r : Rl) (o a : Int) (w' : World) : Prop := Memo w' m ∧ m < w.heap.size ∧ (keepsW w N m r o a).grownBy w' (some m)

theorem KeepsS.start {w : World} {N : Int} {m : Nat} {r : Rl} {o a : Int} (hM : Memo w m) : KeepsS w N m r o a (keepsW w N m r o a) :=
  ⟨((hM.kept (World.grownBy_alloc _ _ none) (by simp)).kept (World.grownBy_alloc _ _ none) (by simp)).kept (World.grownBy_alloc _ _ none) (by simp), hM.lt, ⟨rfl, rfl, rfl, Nat.le_refl _, fun _ _ _ => rfl⟩⟩
theorem KeepsS.step {w : World} {N : Int} {m : Nat} {r : Rl} {o a : Int} {wa wb : World} (h : KeepsS w N m r o a wa) (hM : Memo wb m) (hG : wa.grownBy wb (some m)) : KeepsS w N m r o a wb := ⟨hM, h.2.1, h.2.2.trans hG⟩
theorem KeepsS.grown {w : World} {N : Int} {m : Nat} {r : Rl} {o a : Int} {wa : World} (h : KeepsS w N m r o a wa) : w.grownBy wa (some m) :=
  (((World.grownBy_alloc w _ _).trans (World.grownBy_alloc _ _ _)).trans (World.grownBy_alloc _ _ _)).trans h.2.2

theorem KeepsS.cells {w : World} {N : Int} {m : Nat} {g po pi b fo fi : Int} {o a : Int} {wa : World} (h : KeepsS w N m ⟨g, po, pi, b, fo, fi⟩ o a wa) :
    wa.cell? ⟨w.heap.size, 0, none⟩ = some (.int .i64 N) ∧ wa.cell? ⟨w.heap.size, 1, none⟩ = some (.map (some m)) ∧
    wa.cell? ⟨w.heap.size + 1, 0, none⟩ = some (.int .i64 g) ∧ wa.cell? ⟨w.heap.size + 1, 1, none⟩ = some (.int .i64 po) ∧ wa.cell? ⟨w.heap.size + 1, 2, none⟩ = some (.int .i64 pi) ∧
    wa.cell? ⟨w.heap.size + 1, 3, none⟩ = some (.int .i64 b) ∧ wa.cell? ⟨w.heap.size + 1, 4, none⟩ = some (.int .i64 fo) ∧ wa.cell? ⟨w.heap.size + 1, 5, none⟩ = some (.int .i64 fi) ∧
    wa.cell? ⟨w.heap.size + 1 + 1, 0, none⟩ = some (.int .i64 o) ∧ wa.cell? ⟨w.heap.size + 1 + 1, 1, none⟩ = some (.int .i64 a) ∧ w.heap.size + 1 + 1 < wa.heap.size ∧ w.heap.size + 1 < wa.heap.size ∧ w.heap.size < wa.heap.size := by
  obtain ⟨_, hlt, hG⟩ := h
  have hz := hG.size
  simp only [World.size_alloc] at hz
  refine ⟨hG.cell (by go_simp) ?_, hG.cell (by go_simp) ?_, hG.cell (by go_simp) ?_, hG.cell (by go_simp) ?_, hG.cell (by go_simp) ?_, hG.cell (by go_simp) ?_, hG.cell (by go_simp) ?_, hG.cell (by go_simp) ?_, hG.cell (by go_simp) ?_, hG.cell (by go_simp) ?_, by omega, by omega, by omega⟩
  all_goals (simp; omega)

set_option maxRecDepth 100000 in
set_option maxHeartbeats 1600000 in
theorem keeps_any (N : Int) (m : Nat) (r : Rl) (o a : Int) (w : World) (hN0 : 0 ≤ N) (hN : N ≤ 40) (ho : o ≤ N) (ha0 : 0 ≤ a) (ha : a ≤ o) (hr : ruleB N r = true) (hM : Memo w m) :
    Calls Try.prog 71 #[lotV N m, rlV r, planV o a] w fun e w' => e = .returned (.bool (keepsB N r o a)) ∧ Memo w' m ∧ w.grownBy w' (some m) := by
  obtain ⟨hg0, hgb, hbN, hp, hf⟩ := ruleB_true hr
  obtain ⟨hp1, hp2, hp3, hp4⟩ := oddsB_true hp
  obtain ⟨hf1, hf2, hf3, hf4⟩ := oddsB_true hf
  clear hp hf hr
  have Hst := Lib.hid (KeepsS.start (N := N) (r := r) (o := o) (a := a) hM)
  obtain ⟨g, po, pi, b, fo, fi⟩ := r
  simp only at hg0 hgb hbN hp1 hp2 hp3 hp4 hf1 hf2 hf3 hf4
  go_enter Try.func71, Try.ntmps71
  go_wp2
  go_loopw [12] (fun k wr => ∃ j : Nat, (j : Int) ≤ N + 1 ∧ k = .int .i64 j ∧ (∀ i : Nat, i < j → keepsAt N ⟨g, po, pi, b, fo, fi⟩ o a i = true) ∧ KeepsS w N m ⟨g, po, pi, b, fo, fi⟩ o a wr) (fun k _ => (N + 1 - intOf k).toNat)
  case atStart =>
    exact ⟨0, by omega, rfl, fun i hi => by omega, Hst.out⟩
  case round =>
    obtain ⟨j, hj, rfl, hall, hS⟩ := hrel
    have Hall := Lib.hid hall
    have Hs := Lib.hid hS
    obtain ⟨l0, l1, r0, r1, r2, r3, r4, r5, p0, p1, z2, z1, z0⟩ := hS.cells
    have hMr := hS.1
    clear hall hS
    by_cases hlt : (j : Int) < N + 1
    · go_wp2_with fail
      refine (passes_any N j o a _ m hN (by omega) (by omega) ho ha0 ha hMr).mono ?_
      rintro e w1 ⟨rfl, hM1, hG1⟩
      have hS1 := KeepsS.step Hs.out hM1 hG1
      have Hs1 := Lib.hid hS1
      obtain ⟨l0, l1, r0, r1, r2, r3, r4, r5, p0, p1, y2, y1, y0⟩ := hS1.cells
      have hF0 := fnd_nonneg N j o 0 a
      have hF1 := fnd_le N j o 0 a (by omega) (by omega) hN (by omega) (by omega)
      have hC0 := cnt_nonneg N o
      have hC1 := cnt_le N o hN
      obtain ⟨x, hx⟩ : ∃ x, fnd N j o 0 a * pi - po * cnt N o = x := ⟨_, rfl⟩
      obtain ⟨y, hy⟩ : ∃ y, fnd N j o 0 a * fi - fo * cnt N o = y := ⟨_, rfl⟩
      have Hx := Lib.hid hx
      have Hy := Lib.hid hy
      have hat : keepsAt N ⟨g, po, pi, b, fo, fi⟩ o a j = !((decide ((j : Int) ≤ g) && decide (x < 0)) || (decide (b ≤ (j : Int)) && decide (0 < y))) := by simp only [keepsAt, hx, hy]
      have Hat := Lib.hid hat
      clear hx hy hat hS1 hG1
      by_cases h1 : (j : Int) ≤ g
      · have d1 : decide ((j : Int) ≤ g) = true := by simpa using h1
        have d2 : decide (b ≤ (j : Int)) = false := by simp; omega
        by_cases h2 : x < 0
        · have d3 : decide (x < 0) = true := by simpa using h2
          have Hk : Hid (keepsB N ⟨g, po, pi, b, fo, fi⟩ o a = false) := by
            refine keepsB_false (j := j) (by omega) ?_
            rw [Hat.out, d1, d3]; rfl
          go_wp2_with fail
          refine (compare_is _ _ _ _ _ hF0 hF1 hC0 hC1 (by omega) (by omega) (by omega) (by omega) Hx.out).mono ?_
          rintro e w2 ⟨rfl, hB2⟩
          have hG2 : w1.grownBy w2 (some m) := (World.grownBy_alloc _ _ _).trans (grown_of_below hB2 _)
          have hM2 : Memo w2 m := (hM1.kept (World.grownBy_alloc _ _ none) (by simp)).kept (grown_of_below hB2 none) (by simp)
          have Hs2 := Lib.hid (KeepsS.step Hs1.out hM2 hG2)
          obtain ⟨_, _, q0, q1, q2, q3, q4, q5, _, _, v2, v1, v0⟩ := Hs2.out.cells
          clear hB2 hG2
          go_wp2
          go_ret
          exact ⟨by rw [Hk.out]; rfl, Hs2.out.1, Hs2.out.grown⟩
        · have d3 : decide (x < 0) = false := by simpa using h2
          have Hk : Hid (keepsAt N ⟨g, po, pi, b, fo, fi⟩ o a j = true) := by
            rw [Hat.out, d1, d2, d3]; rfl
          go_wp2_with fail
          refine (compare_is _ _ _ _ _ hF0 hF1 hC0 hC1 (by omega) (by omega) (by omega) (by omega) Hx.out).mono ?_
          rintro e w2 ⟨rfl, hB2⟩
          have hG2 : w1.grownBy w2 (some m) := (World.grownBy_alloc _ _ _).trans (grown_of_below hB2 _)
          have hM2 : Memo w2 m := (hM1.kept (World.grownBy_alloc _ _ none) (by simp)).kept (grown_of_below hB2 none) (by simp)
          have Hs2 := Lib.hid (KeepsS.step Hs1.out hM2 hG2)
          obtain ⟨_, _, q0, q1, q2, q3, q4, q5, _, _, v2, v1, v0⟩ := Hs2.out.cells
          clear hB2 hG2
          go_wp2
          go_roundw
          case rel => exact ⟨j + 1, by omega, by go_num, fun i hi => by rcases Nat.lt_succ_iff_lt_or_eq.1 hi with hi | rfl; exact Hall.out i hi; exact Hk.out, Hs2.out⟩
          case measure => simp [intOf]; omega
      · have d1 : decide ((j : Int) ≤ g) = false := by simpa using h1
        by_cases h2 : b ≤ (j : Int)
        · have d2 : decide (b ≤ (j : Int)) = true := by simpa using h2
          by_cases h3 : 0 < y
          · have d3 : decide (0 < y) = true := by simpa using h3
            have Hk : Hid (keepsB N ⟨g, po, pi, b, fo, fi⟩ o a = false) := by
              refine keepsB_false (j := j) (by omega) ?_
              rw [Hat.out, d1, d2, d3]; rfl
            go_wp2_with fail
            refine (compare_is _ _ _ _ _ hF0 hF1 hC0 hC1 (by omega) (by omega) (by omega) (by omega) Hy.out).mono ?_
            rintro e w2 ⟨rfl, hB2⟩
            have hG2 : w1.grownBy w2 (some m) := (World.grownBy_alloc _ _ _).trans (grown_of_below hB2 _)
            have hM2 : Memo w2 m := (hM1.kept (World.grownBy_alloc _ _ none) (by simp)).kept (grown_of_below hB2 none) (by simp)
            have Hs2 := Lib.hid (KeepsS.step Hs1.out hM2 hG2)
            obtain ⟨_, _, q0, q1, q2, q3, q4, q5, _, _, v2, v1, v0⟩ := Hs2.out.cells
            clear hB2 hG2
            go_wp2
            go_ret
            exact ⟨by rw [Hk.out]; rfl, Hs2.out.1, Hs2.out.grown⟩
          · have d3 : decide (0 < y) = false := by simpa using h3
            have Hk : Hid (keepsAt N ⟨g, po, pi, b, fo, fi⟩ o a j = true) := by
              rw [Hat.out, d1, d2, d3]; rfl
            go_wp2_with fail
            refine (compare_is _ _ _ _ _ hF0 hF1 hC0 hC1 (by omega) (by omega) (by omega) (by omega) Hy.out).mono ?_
            rintro e w2 ⟨rfl, hB2⟩
            have hG2 : w1.grownBy w2 (some m) := (World.grownBy_alloc _ _ _).trans (grown_of_below hB2 _)
            have hM2 : Memo w2 m := (hM1.kept (World.grownBy_alloc _ _ none) (by simp)).kept (grown_of_below hB2 none) (by simp)
            have Hs2 := Lib.hid (KeepsS.step Hs1.out hM2 hG2)
            obtain ⟨_, _, q0, q1, q2, q3, q4, q5, _, _, v2, v1, v0⟩ := Hs2.out.cells
            clear hB2 hG2
            go_wp2
            go_roundw
            case rel => exact ⟨j + 1, by omega, by go_num, fun i hi => by rcases Nat.lt_succ_iff_lt_or_eq.1 hi with hi | rfl; exact Hall.out i hi; exact Hk.out, Hs2.out⟩
            case measure => simp [intOf]; omega
        · have d2 : decide (b ≤ (j : Int)) = false := by simpa using h2
          have Hk : Hid (keepsAt N ⟨g, po, pi, b, fo, fi⟩ o a j = true) := by
            rw [Hat.out, d1, d2]; rfl
          have Hs2 := Lib.hid (KeepsS.step Hs1.out (hM1.kept (World.grownBy_alloc _ (.cells #[.int .i64 (fnd N j o 0 a), .int .i64 (cnt N o)] 107) none) (by simp)) (World.grownBy_alloc _ _ _))
          go_wp2
          go_roundw
          case rel => exact ⟨j + 1, by omega, by go_num, fun i hi => by rcases Nat.lt_succ_iff_lt_or_eq.1 hi with hi | rfl; exact Hall.out i hi; exact Hk.out, Hs2.out⟩
          case measure => simp [intOf]; omega
    · go_wp2
      go_ret
      exact ⟨by rw [keepsB_true hN0 (fun i hi => Hall.out i (by omega))]; rfl, hMr, Hs.out.grown⟩

end Go.Proofs.Ythpllmefbhjmmaa
