/-
  'BrandFewest' returns true, for any number of barrels, rule and numbers: no condition.
-/
import Derived.Test.YthpllmefbhjmmaaOddsLaw
import Derived.Test.YthpllmefbhjmmaaArgNum
import Derived.Test.YthpllmefbhjmmaaFirstPlan
import Derived.Deep.DeepCutAuto
namespace Go.Proofs.Ythpllmefbhjmmaa
open Go.ChangeShapes Go.WideShapes Go.ChangeAt Go.RowKit Plain
attribute [local go_sem] Oper.semAt_some

theorem fewestR_cases (N : Int) (r : Rl) : (∃ e, e ≠ 0 ∧ fewestR N r = (0, 0, e)) ∨ (inB N 1 40 = true ∧ ruleB N r = true) := by
  unfold fewestR
  cases h1 : inB N 1 40
  · exact .inl ⟨7, by decide, by simp⟩
  cases h2 : ruleB N r
  · exact .inl ⟨71, by decide, by simp⟩
  · exact .inr ⟨rfl, rfl⟩

/-- The law's two blocks: the rule; three numbers. -/
def RuNum (w : World) (r : Rl) (a b c : Int) (w' : World) : Prop :=
  RuleAt w' w.heap.size r ∧ (w'.cell? ⟨w.heap.size + 1, 0, none⟩ = some (.int .i64 a) ∧ w'.cell? ⟨w.heap.size + 1, 1, none⟩ = some (.int .i64 b) ∧ w'.cell? ⟨w.heap.size + 1, 2, none⟩ = some (.int .i64 c)) ∧ Below w.heap.size w w'
theorem RuNum.lt {w : World} {r : Rl} {a b c : Int} {w' : World} (h : RuNum w r a b c w') : w.heap.size + 1 < w'.heap.size := World.block_lt_of_cell? _ _ h.2.1.1
theorem RuNum.below {w : World} {r : Rl} {a b c : Int} {w' w2 : World} (h : RuNum w r a b c w') (hB : Below w'.heap.size w' w2) : RuNum w r a b c w2 := by
  have hl := h.lt
  obtain ⟨h0, ⟨h1, h2, h3⟩, hb⟩ := h
  have k : ∀ i, w2.cell? ⟨w.heap.size + 1, i, none⟩ = w'.cell? ⟨w.heap.size + 1, i, none⟩ := fun i => World.cell?_of_block (a := ⟨w.heap.size + 1, i, none⟩) (hB.block _ hl)
  exact ⟨h0.below hB (by omega), ⟨(k _).trans h1, (k _).trans h2, (k _).trans h3⟩, below_trans hb hB⟩
theorem RuNum.start (w : World) (r : Rl) (a b c : Int) : RuNum w r a b c ((w.alloc (.cells #[.int .i64 r.g, .int .i64 r.po, .int .i64 r.pi, .int .i64 r.b, .int .i64 r.fo, .int .i64 r.fi] 39)).alloc (.cells #[.int .i64 a, .int .i64 b, .int .i64 c] 45)) := by
  have key : ∀ W : World, (W.alloc (.cells #[.int .i64 a, .int .i64 b, .int .i64 c] 45)).cell? ⟨W.heap.size, 0, none⟩ = some (.int .i64 a) ∧ (W.alloc (.cells #[.int .i64 a, .int .i64 b, .int .i64 c] 45)).cell? ⟨W.heap.size, 1, none⟩ = some (.int .i64 b) ∧ (W.alloc (.cells #[.int .i64 a, .int .i64 b, .int .i64 c] 45)).cell? ⟨W.heap.size, 2, none⟩ = some (.int .i64 c) := fun W => ⟨by go_simp, by go_simp, by go_simp⟩
  have HP := key (w.alloc (.cells #[.int .i64 r.g, .int .i64 r.po, .int .i64 r.pi, .int .i64 r.b, .int .i64 r.fo, .int .i64 r.fi] 39))
  rw [World.size_alloc] at HP
  exact ⟨by unfold RuleAt; go_simp, HP, (below_alloc _).alloc (by simp) _⟩

set_option maxRecDepth 100000 in
set_option maxHeartbeats 1600000 in
theorem law13_bad (N : Int) (r : Rl) (a b c x : Int) (w : World) (hx : x ≠ 0) (hz : fewestR N r = (0, 0, x)) :
    Calls Try.prog 13 #[.int .i64 N, rlV r, .agg #[.int .i64 a, .int .i64 b, .int .i64 c]] w fun e w' => e = .returned (.bool true) ∧ Below w.heap.size w w' := by
  have Hz := Lib.hid hz
  have HS := Lib.hid (RuNum.start w r a b c)
  have hx1 : (x == 0) = false := beq_eq_false_iff_ne.2 hx
  have hx2 : (x != 0) = true := by simpa using hx
  obtain ⟨g, po, pi, bd, fo, fi⟩ := r
  clear hz
  go_enter Try.func13, Try.ntmps13
  go_wp2_with fail
  refine (fewest_ex N ⟨g, po, pi, bd, fo, fi⟩ _ Hz.out).mono ?_
  rintro e w1 ⟨rfl, hB1⟩
  have hB := below_more (HS.out.below hB1).2.2 (.cells #[.int .i64 0, .int .i64 0] 32)
  clear hB1
  go_wp2_with fail
  refine (works_is _).mono ?_
  rintro e w5 ⟨rfl, hB6⟩
  have hB7 := below_trans hB hB6
  clear hB hB6
  go_wp2_with fail
  go_ret
  exact ⟨rfl, hB7⟩

/-- What the drawn regions read: the rule, three numbers, the plan. -/
def FwS (W : World) (A P : Nat) (g po pi b fo fi n0 n1 n2 k j : Int) (w' : World) : Prop :=
  w'.cell? ⟨A, 0, none⟩ = some (.int .i64 g) ∧ w'.cell? ⟨A, 1, none⟩ = some (.int .i64 po) ∧ w'.cell? ⟨A, 2, none⟩ = some (.int .i64 pi) ∧ w'.cell? ⟨A, 3, none⟩ = some (.int .i64 b) ∧ w'.cell? ⟨A, 4, none⟩ = some (.int .i64 fo) ∧ w'.cell? ⟨A, 5, none⟩ = some (.int .i64 fi) ∧
    w'.cell? ⟨A + 1, 0, none⟩ = some (.int .i64 n0) ∧ w'.cell? ⟨A + 1, 1, none⟩ = some (.int .i64 n1) ∧ w'.cell? ⟨A + 1, 2, none⟩ = some (.int .i64 n2) ∧ w'.cell? ⟨P, 0, none⟩ = some (.int .i64 k) ∧ w'.cell? ⟨P, 1, none⟩ = some (.int .i64 j) ∧ Below W.heap.size W w'
theorem FwS.of {W : World} {A P : Nat} {g po pi b fo fi n0 n1 n2 k j : Int} {w1 w2 : World} (h : FwS W A P g po pi b fo fi n0 n1 n2 k j w1) (h0 : w1 = W) (hB : Below W.heap.size W w2) : FwS W A P g po pi b fo fi n0 n1 n2 k j w2 := by
  subst h0
  obtain ⟨c0, c1, c2, c3, c4, c5, c6, c7, c8, c9, c10, _⟩ := h
  have q : ∀ (x i : Nat) {v : Value}, w1.cell? ⟨x, i, none⟩ = some v → w2.cell? ⟨x, i, none⟩ = some v := fun x i v hc => (World.cell?_of_block (a := ⟨x, i, none⟩) (hB.block _ (World.block_lt_of_cell? _ _ hc))).trans hc
  exact ⟨q _ _ c0, q _ _ c1, q _ _ c2, q _ _ c3, q _ _ c4, q _ _ c5, q _ _ c6, q _ _ c7, q _ _ c8, q _ _ c9, q _ _ c10, hB⟩

theorem FwS.last {W : World} {A P : Nat} {g po pi b fo fi n0 n1 n2 k j : Int} {w1 : World} (h : FwS W A P g po pi b fo fi n0 n1 n2 k j w1) : Below W.heap.size W w1 := h.2.2.2.2.2.2.2.2.2.2.2
theorem FwS.drew {W : World} {A P : Nat} {g po pi b fo fi n0 n1 n2 k j : Int} {w1 : World} (h : FwS W A P g po pi b fo fi n0 n1 n2 k j w1) : FwS W A P g po pi b fo fi n0 n1 n2 k j w1.drew := by
  obtain ⟨c0, c1, c2, c3, c4, c5, c6, c7, c8, c9, c10, hb⟩ := h
  exact ⟨c0, c1, c2, c3, c4, c5, c6, c7, c8, c9, c10, hb.drew⟩
theorem FwS.below {W : World} {A P : Nat} {g po pi b fo fi n0 n1 n2 k j : Int} {w1 w2 : World} (h : FwS W A P g po pi b fo fi n0 n1 n2 k j w1) (hB : Below w1.heap.size w1 w2) : FwS W A P g po pi b fo fi n0 n1 n2 k j w2 := by
  obtain ⟨c0, c1, c2, c3, c4, c5, c6, c7, c8, c9, c10, hb⟩ := h
  have q : ∀ (x i : Nat) {v : Value}, w1.cell? ⟨x, i, none⟩ = some v → w2.cell? ⟨x, i, none⟩ = some v := fun x i v hc => (World.cell?_of_block (a := ⟨x, i, none⟩) (hB.block _ (World.block_lt_of_cell? _ _ hc))).trans hc
  exact ⟨q _ _ c0, q _ _ c1, q _ _ c2, q _ _ c3, q _ _ c4, q _ _ c5, q _ _ c6, q _ _ c7, q _ _ c8, q _ _ c9, q _ _ c10, below_trans hb hB⟩

theorem mod_b (n b : Int) (w : World) (hn0 : -9223372036854775808 ≤ n) (hn : n ≤ 9223372036854775807) (h1 : 1 ≤ b) (h2 : b ≤ 1000000) :
    Calls Try.prog 33 #[.int .i64 n, .int .i64 b] w fun e w' => e = .returned (.int .i64 (n % b)) ∧ Below w.heap.size w w' :=
  (mod_is n b w hn0 hn h1 h2).mono fun _ _ ⟨he, hw⟩ => ⟨he, by subst hw; exact Below.refl _ _⟩

theorem bcell {W w1 : World} (hb : Below W.heap.size W w1) : (∀ b o, b < W.heap.size → w1.cell? ⟨b, o, none⟩ = W.cell? ⟨b, o, none⟩) ∧ (∀ b o, b < W.heap.size → w1.frozen? ⟨b, o, none⟩ = W.frozen? ⟨b, o, none⟩) :=
  ⟨fun b o h => hb.cell (p := ⟨b, o, none⟩) h, fun b o h => hb.frozen (p := ⟨b, o, none⟩) h⟩

theorem keepA {W w1 : World} (h : Below W.drew.heap.size W.drew w1) (o : Obj) : Below W.heap.size W (w1.alloc o) :=
  (below_trans (Below.refl _ _).drew h).alloc h.size o
theorem keepB {W w1 : World} {o : Obj} (h : Below (W.alloc o).drew.heap.size (W.alloc o).drew w1) (x y : Value) : Below W.heap.size W ((w1.setCell ⟨W.heap.size, 0, none⟩ x).setCell ⟨W.heap.size, 1, none⟩ y) :=
  ((below_trans (below_alloc o).drew h).setCell (Nat.le_refl _) x).setCell (Nat.le_refl _) y

/-- A new struct of two numbers, and no error; all else as it was. -/
def GotS (W : World) (p q : Int) (s t : Value) (wx : World) : Prop := t = .int .i64 0 ∧ ∃ g : Nat, s = .pointer (some ⟨g, 0, none⟩) ∧ W.heap.size ≤ g ∧ TwoAt wx g (.int .i64 p) (.int .i64 q) ∧ Below W.heap.size W wx

theorem keepsB_at {N : Int} {r : Rl} {o a j : Int} (h : keepsB N r o a = true) (h0 : 0 ≤ j) (h1 : j ≤ N) : keepsAt N r o a j = true := by
  obtain ⟨i, rfl⟩ := Int.eq_ofNat_of_zero_le h0
  exact List.all_eq_true.1 h i (List.mem_range.2 (by omega))
theorem keeps_pass {N : Int} {r : Rl} {o a d : Int} (h : keepsB N r o a = true) (h0 : 0 ≤ d) (h1 : d ≤ r.g) (h2 : d ≤ N) (hC : 0 < cnt N o) :
    lessB (fnd N d o 0 a / gcdI (fnd N d o 0 a) (cnt N o)) (cnt N o / gcdI (fnd N d o 0 a) (cnt N o)) r.po r.pi = false := by
  have hk := keepsB_at h h0 h2
  unfold keepsAt at hk
  rw [less_red (fnd_nonneg N d o 0 a) hC, decide_eq_false]
  rw [decide_eq_true h1] at hk
  intro hlt
  rw [decide_eq_true (show fnd N d o 0 a * r.pi - r.po * cnt N o < 0 by omega)] at hk
  simp at hk
theorem keeps_fail {N : Int} {r : Rl} {o a d : Int} (h : keepsB N r o a = true) (h0 : 0 ≤ d) (h1 : r.b ≤ d) (h2 : d ≤ N) (hC : 0 < cnt N o) :
    lessB r.fo r.fi (fnd N d o 0 a / gcdI (fnd N d o 0 a) (cnt N o)) (cnt N o / gcdI (fnd N d o 0 a) (cnt N o)) = false := by
  have hk := keepsB_at h h0 h2
  unfold keepsAt at hk
  rw [red_less (fnd_nonneg N d o 0 a) hC, decide_eq_false]
  rw [decide_eq_true h1] at hk
  intro hlt
  rw [decide_eq_true (show 0 < fnd N d o 0 a * r.fi - r.fo * cnt N o by omega)] at hk
  simp at hk

theorem GotS.a {W w1 : World} {p q : Int} (h : Below W.drew.heap.size W.drew w1) : GotS W p q (.pointer (some ⟨w1.heap.size, 0, none⟩)) (.int .i64 0) (w1.alloc (.cells #[.int .i64 p, .int .i64 q] 34)) :=
  ⟨rfl, _, rfl, h.size, by unfold TwoAt; go_simp, keepA h _⟩
theorem GotS.b {W w1 : World} {p q : Int} (h : Below (W.alloc (.cells #[.int .i64 0, .int .i64 0] 34)).drew.heap.size (W.alloc (.cells #[.int .i64 0, .int .i64 0] 34)).drew w1) :
    GotS W p q (.pointer (some ⟨W.heap.size, 0, none⟩)) (.int .i64 0) ((w1.setCell ⟨W.heap.size, 0, none⟩ (.int .i64 p)).setCell ⟨W.heap.size, 1, none⟩ (.int .i64 q)) := by
  have h0 : TwoAt w1 W.heap.size (.int .i64 0) (.int .i64 0) := TwoAt.below (w := (W.alloc (.cells #[.int .i64 0, .int .i64 0] 34)).drew) (by unfold TwoAt; go_simp) h (by simp)
  obtain ⟨h1, h2⟩ := h0
  exact ⟨rfl, _, rfl, Nat.le_refl _, by unfold TwoAt; go_simp, keepB h _ _⟩
theorem FwS.re {W : World} {A P : Nat} {g po pi b fo fi n0 n1 n2 k j : Int} {w1 : World} (h : FwS W A P g po pi b fo fi n0 n1 n2 k j w1) : FwS w1 A P g po pi b fo fi n0 n1 n2 k j w1 := by
  obtain ⟨c0, c1, c2, c3, c4, c5, c6, c7, c8, c9, c10, _⟩ := h
  exact ⟨c0, c1, c2, c3, c4, c5, c6, c7, c8, c9, c10, Below.refl _ _⟩

set_option maxRecDepth 100000 in
set_option maxHeartbeats 3200000 in
theorem law13_good (N : Int) (r : Rl) (n0 n1 n2 : Int) (w : World) (h1 : inB N 1 40 = true) (h2 : ruleB N r = true) (f0 : fits n0) (f1 : fits n1) (f2 : fits n2) :
    Calls Try.prog 13 #[.int .i64 N, rlV r, .agg #[.int .i64 n0, .int .i64 n1, .int .i64 n2]] w fun e w' => e = .returned (.bool true) ∧ Below w.heap.size w w' := by
  obtain ⟨g1, g2⟩ := inB_true h1
  obtain ⟨n, rfl⟩ := Int.eq_ofNat_of_zero_le (show 0 ≤ N by omega)
  obtain ⟨k, j, hk, hj, hz, hkeep, hfirst⟩ := fewest_found h1 h2
  have Hz := Lib.hid hz
  have H1 := Lib.hid h1
  have H2 := Lib.hid h2
  have HS := Lib.hid (RuNum.start w r n0 n1 n2)
  have Hkeeps : Hid (keepsR n r k j = (true, 0)) := by
    show _ = _
    unfold keepsR
    rw [h1, h2, if_pos rfl, if_pos rfl, inB_mk ⟨by omega, by omega⟩, inB_mk ⟨by omega, by omega⟩, hkeep]; rfl
  clear hz
  obtain ⟨g, po, pi, b, fo, fi⟩ := r
  go_enter Try.func13, Try.ntmps13
  go_wp2_with fail
  refine (fewest_ex n ⟨g, po, pi, b, fo, fi⟩ _ Hz.out).mono ?_
  rintro e w1 ⟨rfl, hB1⟩
  have hS1 := HS.out.below hB1
  have HS1 := Lib.hid (hS1.below (below_alloc (.cells #[.int .i64 (k : Int), .int .i64 (j : Int)] 32)))
  obtain ⟨⟨r0, r1, r2, r3, r4, r5⟩, _, _⟩ := hS1
  have l0 : w.heap.size < w1.heap.size := World.block_lt_of_cell? _ _ r0
  have P0 : TwoAt (w1.alloc (.cells #[.int .i64 (k : Int), .int .i64 (j : Int)] 32)) w1.heap.size (.int .i64 (k : Int)) (.int .i64 (j : Int)) := by unfold TwoAt; go_simp
  have hz0 : w1.heap.size < (w1.alloc (.cells #[.int .i64 (k : Int), .int .i64 (j : Int)] 32)).heap.size := by simp
  clear hB1
  go_wp2_with fail
  refine (ruledLaw_is n ⟨g, po, pi, b, fo, fi⟩ _ H1.out H2.out).mono ?_
  rintro e w2 ⟨rfl, hB2⟩
  have HS2 := Lib.hid (HS1.out.below hB2)
  have P1 := P0.below hB2 hz0
  have hz1 : w1.heap.size < w2.heap.size := by have := hB2.size; omega
  clear hB2 HS1 r0 r1 r2 r3 r4 r5 l0 P0
  obtain ⟨⟨r0, r1, r2, r3, r4, r5⟩, _, _⟩ := HS2.out
  have l0 : w.heap.size < w2.heap.size := World.block_lt_of_cell? _ _ r0
  obtain ⟨p0, p1⟩ := P1
  go_wp2_with fail
  refine (keeps_ex n k j ⟨g, po, pi, b, fo, fi⟩ _ Hkeeps.out).mono ?_
  rintro e w3 ⟨rfl, hB3⟩
  have HS3 := Lib.hid (HS2.out.below hB3)
  have P2 := TwoAt.below ⟨p0, p1⟩ hB3 hz1
  clear hB3 HS2 r0 r1 r2 r3 r4 r5 l0 p0 p1
  obtain ⟨⟨r0, r1, r2, r3, r4, r5⟩, ⟨m0, m1, m2⟩, _⟩ := HS3.out
  obtain ⟨p0, p1⟩ := P2
  have HF : Hid (FwS w3 w.heap.size w1.heap.size g po pi b fo fi n0 n1 n2 k j w3) := ⟨r0, r1, r2, r3, r4, r5, m0, m1, m2, p0, p1, Below.refl _ _⟩
  obtain ⟨a0, b0⟩ := f0
  obtain ⟨q1, q2, q3, q4, q5⟩ := ruleB_true H2.out
  simp only at q1 q2 q3
  have t0 := Int.emod_nonneg n0 (show g + 1 ≠ 0 by omega)
  have t1 := Int.emod_lt_of_pos n0 (show 0 < g + 1 by omega)
  have hl0 : w.heap.size < w3.heap.size := World.block_lt_of_cell? _ _ r0
  obtain ⟨d, hd⟩ : ∃ d, n0 % (g + 1) = d := ⟨_, rfl⟩
  rw [hd] at t0 t1
  have id := inB_mk (n := d) (lo := 0) (hi := n) ⟨t0, by omega⟩
  have ik := inB_mk (n := (k : Int)) (lo := 0) (hi := n) ⟨by omega, by omega⟩
  have ij := inB_mk (n := (j : Int)) (lo := 0) (hi := k) ⟨by omega, by omega⟩
  have Z1 := Lib.hid (oddsR_good H1.out id ik ij)
  have hr1 := odds_bounds H1.out id ik ij
  have hC := cnt_pos n k (by omega) (by omega)
  have L1 := Lib.hid (keeps_pass hkeep t0 (show d ≤ g by omega) (by omega) hC)
  have Hd := Lib.hid hd
  clear hd
  go_upto_region 5 with fail
  have hw1 : IntKind.i64.wrap (g + 1) = g + 1 := IntWalk.i64_in _ (by omega)
  go_cut [11, 12] (fun s11 s12 wx => GotS w3 (fnd n d k 0 j / gcdI (fnd n d k 0 j) (cnt n k)) (cnt n k / gcdI (fnd n d k 0 j) (cnt n k)) s11 s12 wx)
  case first =>
    have hsz := World.size_drew (w := w3)
    go_region_held3 (fun w' => w'.cell? ⟨w.heap.size, 0, none⟩ = some (.int .i64 g) ∧ w'.cell? ⟨w.heap.size, 1, none⟩ = some (.int .i64 po) ∧ w'.cell? ⟨w.heap.size, 2, none⟩ = some (.int .i64 pi) ∧ w'.cell? ⟨w.heap.size, 3, none⟩ = some (.int .i64 b) ∧ w'.cell? ⟨w.heap.size, 4, none⟩ = some (.int .i64 fo) ∧ w'.cell? ⟨w.heap.size, 5, none⟩ = some (.int .i64 fi) ∧
      w'.cell? ⟨w.heap.size + 1, 0, none⟩ = some (.int .i64 n0) ∧ w'.cell? ⟨w.heap.size + 1, 1, none⟩ = some (.int .i64 n1) ∧ w'.cell? ⟨w.heap.size + 1, 2, none⟩ = some (.int .i64 n2) ∧ w'.cell? ⟨w1.heap.size, 0, none⟩ = some (.int .i64 k) ∧ w'.cell? ⟨w1.heap.size, 1, none⟩ = some (.int .i64 j) ∧ Below w3.heap.size w3 w')
      (first
        | exact HF.out.drew | exact FwS.drew (FwS.below HF.out (below_alloc _)) | exact FwS.below (by assumption) hBn | exact FwS.below (by assumption) (below_alloc _)
        | exact FwS.of HF.out rfl (keepA hBn _)
        | exact FwS.of HF.out rfl (keepB hBn _ _))
      (first
        | (go_at_call 33; (with_reducible refine (mod_is n0 (g + 1) _ a0 b0 (by omega) (by omega)).mono ?_); rintro e wm ⟨rfl, rfl⟩; rw [Hd.out])
        | (go_at_call 22; (with_reducible refine (odds_ex n d k j _ Z1.out).mono ?_); rintro e wn ⟨rfl, hBn⟩; obtain ⟨hc, hf⟩ := bcell hBn))
    all_goals
      go_wp2_with fail
      go_meet
      case rel => first | exact GotS.a hBn | exact GotS.b hBn
  case rest =>
    generalize fnd n d k 0 j / gcdI (fnd n d k 0 j) (cnt n k) = x1 at *
    generalize cnt n k / gcdI (fnd n d k 0 j) (cnt n k) = x2 at *
    obtain ⟨rfl, G, rfl, hG, hT, hB4⟩ := hcut
    have hG1 : G < wc.heap.size := World.block_lt_of_cell? _ _ hT.1
    have HT := Lib.hid hT
    have HS4 := Lib.hid (HS3.out.below hB4)
    have HF4 := Lib.hid (HF.out.of rfl hB4).re
    obtain ⟨c0, c1, c2, c3, c4, c5, c6, c7, c8, c9, c10, _⟩ := HF4.out
    have hl4 : w.heap.size < wc.heap.size := World.block_lt_of_cell? _ _ c0
    clear hT hB4 HF HS3 HS Z1 Hd p0 p1 r0 r1 r2 r3 r4 r5 m0 m1 m2 hG hz0 hz1 hl0
    have u0 := Int.emod_nonneg n0 (show (n : Int) - b + 1 ≠ 0 by omega)
    have u1 := Int.emod_lt_of_pos n0 (show 0 < (n : Int) - b + 1 by omega)
    obtain ⟨d2, hd2⟩ : ∃ d, n0 % ((n : Int) - b + 1) = d := ⟨_, rfl⟩
    rw [hd2] at u0 u1
    have id2 := inB_mk (n := b + d2) (lo := 0) (hi := n) ⟨by omega, by omega⟩
    have Z2 := Lib.hid (oddsR_good H1.out id2 ik ij)
    have hr2 := odds_bounds H1.out id2 ik ij
    have L2 := Lib.hid (keeps_fail hkeep (show 0 ≤ b + d2 by omega) (show b ≤ b + d2 by omega) (by omega) hC)
    have Hd2 := Lib.hid hd2
    clear hd2
    have hw2 : IntKind.i64.wrap ((n : Int) - b) = n - b := IntWalk.i64_in _ (by omega)
    have hw3 : IntKind.i64.wrap ((n : Int) - b + 1) = n - b + 1 := IntWalk.i64_in _ (by omega)
    have hw4 : IntKind.i64.wrap (b + d2) = b + d2 := IntWalk.i64_in _ (by omega)
    go_upto_region 6 with fail
    go_cut [13, 14] (fun s13 s14 wx => GotS wc (fnd n (b + d2) k 0 j / gcdI (fnd n (b + d2) k 0 j) (cnt n k)) (cnt n k / gcdI (fnd n (b + d2) k 0 j) (cnt n k)) s13 s14 wx)
    case first =>
      go_region_held3 (fun w' => w'.cell? ⟨w.heap.size, 0, none⟩ = some (.int .i64 g) ∧ w'.cell? ⟨w.heap.size, 1, none⟩ = some (.int .i64 po) ∧ w'.cell? ⟨w.heap.size, 2, none⟩ = some (.int .i64 pi) ∧ w'.cell? ⟨w.heap.size, 3, none⟩ = some (.int .i64 b) ∧ w'.cell? ⟨w.heap.size, 4, none⟩ = some (.int .i64 fo) ∧ w'.cell? ⟨w.heap.size, 5, none⟩ = some (.int .i64 fi) ∧
        w'.cell? ⟨w.heap.size + 1, 0, none⟩ = some (.int .i64 n0) ∧ w'.cell? ⟨w.heap.size + 1, 1, none⟩ = some (.int .i64 n1) ∧ w'.cell? ⟨w.heap.size + 1, 2, none⟩ = some (.int .i64 n2) ∧ w'.cell? ⟨w1.heap.size, 0, none⟩ = some (.int .i64 k) ∧ w'.cell? ⟨w1.heap.size, 1, none⟩ = some (.int .i64 j) ∧ Below wc.heap.size wc w')
        (first
          | exact HF4.out.drew | exact FwS.drew (FwS.below HF4.out (below_alloc _)) | exact FwS.below (by assumption) hBn | exact FwS.below (by assumption) (below_alloc _)
          | exact FwS.of HF4.out rfl (keepA hBn _)
          | exact FwS.of HF4.out rfl (keepB hBn _ _))
        (first
          | (go_at_call 33; (with_reducible refine (mod_is n0 ((n : Int) - b + 1) _ a0 b0 (by omega) (by omega)).mono ?_); rintro e wm ⟨rfl, rfl⟩; rw [Hd2.out])
          | (go_at_call 22; (with_reducible refine (odds_ex n (b + d2) k j _ Z2.out).mono ?_); rintro e wn ⟨rfl, hBn⟩; obtain ⟨hc, hf⟩ := bcell hBn))
      all_goals
        go_wp2_with fail
        go_meet
        case rel => first | exact GotS.a hBn | exact GotS.b hBn
    case rest =>
      generalize fnd n (b + d2) k 0 j / gcdI (fnd n (b + d2) k 0 j) (cnt n k) = y1 at *
      generalize cnt n k / gcdI (fnd n (b + d2) k 0 j) (cnt n k) = y2 at *
      obtain ⟨rfl, G2, rfl, hG2, hT2, hB5⟩ := hcut
      have hg2 : G2 < wc.heap.size := World.block_lt_of_cell? _ _ hT2.1
      have hg1 : G < wc.heap.size := by have := hB5.size; omega
      have HT2 := Lib.hid hT2
      have HTn := Lib.hid (HT.out.below hB5 hG1)
      have HS5 := Lib.hid (HS4.out.below hB5)
      have HF5 := Lib.hid (HF4.out.of rfl hB5).re
      clear hT2 hB5 HT HS4 HF4 c0 c1 c2 c3 c4 c5 c6 c7 c8 c9 c10 hl4 Z2 Hd2 hw1 hw2 hw3 hw4 hG1 hG2
      obtain ⟨c0, c1, c2, c3, c4, c5, c6, c7, c8, c9, c10, _⟩ := HF5.out
      obtain ⟨t3, t4⟩ := HTn.out
      obtain ⟨t5, t6⟩ := HT2.out
      have hl5 : w.heap.size < wc.heap.size := World.block_lt_of_cell? _ _ c0
      obtain ⟨v1, v2, v3, v4⟩ := oddsB_true q4
      obtain ⟨v5, v6, v7, v8⟩ := oddsB_true q5
      go_wp2_with fail
      refine (less_ex x1 x2 po pi _ (by omega) (by omega) (by omega) (by omega) (by omega) (by omega) (by omega) (by omega) L1.out).mono ?_
      rintro e w5 ⟨rfl, hB6⟩
      have HS6 := Lib.hid (HS5.out.below hB6)
      have HF6 := Lib.hid (HF5.out.below hB6).re
      have hT3 := HT2.out.below hB6 hg2
      have hg3 : G2 < w5.heap.size := World.block_lt_of_cell? _ _ hT3.1
      have HT3 := Lib.hid hT3
      clear hT3 hB6 HT2 HTn HS5 HF5 c0 c1 c2 c3 c4 c5 c6 c7 c8 c9 c10 hl5 t3 t4 t5 t6 hg1 hg2
      obtain ⟨c0, c1, c2, c3, c4, c5, c6, c7, c8, c9, c10, _⟩ := HF6.out
      obtain ⟨t5, t6⟩ := HT3.out
      have hl6 : w.heap.size < w5.heap.size := World.block_lt_of_cell? _ _ c0
      go_wp2_with fail
      refine (less_ex fo fi y1 y2 _ (by omega) (by omega) (by omega) (by omega) (by omega) (by omega) (by omega) (by omega) L2.out).mono ?_
      rintro e w6 ⟨rfl, hB7⟩
      have HS7 := Lib.hid (HS6.out.below hB7)
      have HF7 := Lib.hid (HF6.out.below hB7).re
      clear hB7 HT3 HS6 HF6 c0 c1 c2 c3 c4 c5 c6 c7 c8 c9 c10 hl6 t5 t6 hg3
      obtain ⟨c0, c1, c2, c3, c4, c5, c6, c7, c8, c9, c10, _⟩ := HF7.out
      have hl7 : w.heap.size < w6.heap.size := World.block_lt_of_cell? _ _ c0
      have hl8 : w1.heap.size < w6.heap.size := World.block_lt_of_cell? _ _ c9
      obtain ⟨a1, b1⟩ := f1
      obtain ⟨a2, b2⟩ := f2
      go_wp2_with fail
      have s0 := Int.emod_nonneg n1 (show (k : Int) + 1 ≠ 0 by omega)
      have s1 := Int.emod_lt_of_pos n1 (show 0 < (k : Int) + 1 by omega)
      refine (mod_is n1 (k + 1) _ a1 b1 (by omega) (by omega)).mono ?_
      rintro e w7 ⟨rfl, rfl⟩
      obtain ⟨o, ho⟩ : ∃ o : Nat, n1 % ((k : Int) + 1) = o := ⟨_, (Int.toNat_of_nonneg s0).symm⟩
      rw [ho] at s0 s1 ⊢
      clear ho
      go_wp2_with fail
      refine (opens_is o 0 _).mono ?_
      rintro e w8 ⟨rfl, hB8⟩
      have hS8 := HS7.out.below hB8
      have HF8 := Lib.hid (HF7.out.below hB8)
      clear HS7 HF7 c0 c1 c2 c3 c4 c5 c6 c7 c8 c9 c10 hl7 hl8 hB8
      obtain ⟨c0, c1, c2, c3, c4, c5, c6, c7, c8, c9, c10, _⟩ := HF8.out
      have HS8 := Lib.hid hS8
      clear hS8
      have hl11 : w.heap.size < w8.heap.size := World.block_lt_of_cell? _ _ c0
      have hl9 : w.heap.size + 1 < w8.heap.size := World.block_lt_of_cell? _ _ c6
      have hl10 : w1.heap.size < w8.heap.size := World.block_lt_of_cell? _ _ c9
      have s2 := Int.emod_nonneg n2 (show (o : Int) + 1 ≠ 0 by omega)
      have s3 := Int.emod_lt_of_pos n2 (show 0 < (o : Int) + 1 by omega)
      go_wp2_with fail
      refine (mod_is n2 (o + 1) _ a2 b2 (by omega) (by omega)).mono ?_
      rintro e w9 ⟨rfl, rfl⟩
      obtain ⟨m, hm⟩ : ∃ m : Nat, n2 % ((o : Int) + 1) = m := ⟨_, (Int.toNat_of_nonneg s2).symm⟩
      rw [hm] at s2 s3 ⊢
      clear hm
      have io := inB_mk (n := (o : Int)) (lo := 0) (hi := n) ⟨by omega, by omega⟩
      have im := inB_mk (n := (m : Int)) (lo := 0) (hi := o) ⟨by omega, by omega⟩
      obtain ⟨q, hq⟩ : ∃ q, keepsB n ⟨g, po, pi, b, fo, fi⟩ o m = q := ⟨_, rfl⟩
      have Hk2 : Hid (keepsR n ⟨g, po, pi, b, fo, fi⟩ o m = (q, 0)) := by
        show _ = _
        unfold keepsR
        rw [H1.out, H2.out, if_pos rfl, if_pos rfl, io, im, hq]; rfl
      have hans : q = true → o = k ∧ j ≤ m := by
        intro h
        rw [h] at hq
        refine Classical.byContradiction fun hn => ?_
        have := hfirst o m (by omega) (by omega)
        rw [hq] at this; cases this
      clear hq io im hkeep hfirst
      go_wp2_with fail
      refine (keeps_ex n o m ⟨g, po, pi, b, fo, fi⟩ _ Hk2.out).mono ?_
      rintro e wa ⟨rfl, hBa⟩
      have hO : TwoAt (w8.alloc (.cells #[.int .i64 (o : Int), .int .i64 (m : Int)] 32)) w8.heap.size (.int .i64 (o : Int)) (.int .i64 (m : Int)) := by unfold TwoAt; go_simp
      have hOl : w8.heap.size < (w8.alloc (.cells #[.int .i64 (o : Int), .int .i64 (m : Int)] 32)).heap.size := by simp
      have hO1 := hO.below hBa hOl
      have hOz : w8.heap.size < wa.heap.size := World.block_lt_of_cell? _ _ hO1.1
      have hb8 := below_alloc (w := w8) (.cells #[.int .i64 (o : Int), .int .i64 (m : Int)] 32)
      have hFa := (HF8.out.below hb8).below hBa
      have hSa := below_trans ((HS8.out.below hb8).2.2) hBa
      clear HF8 HS8 hBa hb8 hO hOl c0 c1 c2 c3 c4 c5 c6 c7 c8 c9 c10 hl9 hl10 hl11
      obtain ⟨_, _, _, _, _, _, _, _, _, c9, c10, _⟩ := hFa
      obtain ⟨o0, o1⟩ := hO1
      have hPz : w1.heap.size < wa.heap.size := World.block_lt_of_cell? _ _ c9
      cases q with
      | false =>
        go_wp2_with fail
        refine (works_is _).mono ?_
        rintro e wb ⟨rfl, hBb⟩
        have hBf := below_trans hSa hBb
        clear hSa hBb
        go_wp2_with fail
        go_ret
        exact ⟨rfl, hBf⟩
      | true =>
        obtain ⟨rfl, hjm⟩ := hans rfl
        go_wp2_with fail
        refine (works_is _).mono ?_
        rintro e wb ⟨rfl, hBb⟩
        have hBf := below_trans hSa hBb
        clear hSa hBb
        go_wp2_with fail
        go_ret
        exact ⟨rfl, hBf⟩

theorem law13 (N : Int) (r : Rl) (a b c : Int) (w : World) (f0 : fits a) (f1 : fits b) (f2 : fits c) :
    Calls Try.prog 13 #[.int .i64 N, rlV r, .agg #[.int .i64 a, .int .i64 b, .int .i64 c]] w fun e w' => e = .returned (.bool true) ∧ Below w.heap.size w w' := by
  rcases fewestR_cases N r with ⟨x, hx, hz⟩ | ⟨h1, h2⟩
  · exact law13_bad N r a b c x w hx hz
  · exact law13_good N r a b c w h1 h2 f0 f1 f2

set_option maxRecDepth 100000 in
theorem lifted13 (os : Os) (started : os.Started) (H : Type) (enc : TypeId × Value → H) :
    ReturnsInHanded {} Try.checked os 13 .any (Rows.brandFewestSpec.pre6 enc Try.prog Try.f13 Rows.brandFewestRow.domain false) (Rows.brandFewestSpec.post enc Try.prog Try.f13 false true false false) := by
  refine returnsInHanded_of_change_sized (C := Try.checked) Try.own started (by kernel_rfl) Try.func13
    (ChangeSpec.witness6 (enc := enc) (C := Try.checked) false ⟨#[], #[.int .i64 0, .agg #[.int .i64 0, .int .i64 0, .int .i64 0, .int .i64 0, .int .i64 0, .int .i64 0], .agg #[.int .i64 0, .int .i64 0, .int .i64 0]], []⟩ 8 (by kernel_rfl) (by kernel_rfl) (by kernel_rfl) (by kernel_rfl)) ?_
  intro W base args ds gs before hval0 hW _ _ _
  have hval : ∀ (j : Nat) t v, Try.f13.params[j]? = some t → args[j]? = some v → Value.okWide Try.prog W .any base t v := hval0
  have hW' := hW
  obtain ⟨p, q, hA0, hV, rfl, _, _⟩ := hW
  have hA : DataW.TrodAll enc Try.prog W 0 (fun _ => true) true Try.f13.params.toList args.toList ds p := hA0
  rw [Try.params13] at hA hval
  obtain ⟨v0, v1, v2, d0, d1, d2, p0, p1, p2, rfl, rfl, rfl, h0, h1, h2⟩ := trodAll_three hA
  obtain ⟨rfl, rfl⟩ := trodVars_none hV
  obtain ⟨N, rfl, rfl, rfl, _⟩ := open_int Try.underlying3 (hval 0 3 v0 rfl rfl) h0
  obtain ⟨r, rfl⟩ := open_rule h1 (hval 1 39 v1 rfl rfl)
  obtain ⟨x, y, z, rfl, f0, f1, f2⟩ := open_n3_fits h2 (hval 2 45 v2 rfl rfl)
  clear hA0 hval0
  refine (law13 N r x y z W f0 f1 f2).mono fun e W' ⟨he, hb⟩ => ?_
  subst he
  exact ⟨_, rfl, law_shut (by kernel_rfl) (of_decide_eq_true (by kernel_rfl)) rfl rfl hW' hb⟩

theorem brandFewest_holds : Rows.BrandFewestSaid :=
  OpenClaim.holds_of_wide 13 Try.f13 rfl rfl rfl rfl rfl rfl rfl ⟨rfl, rfl, rfl, rfl, rfl⟩ rfl rfl rfl rfl rfl (by kernel_rfl) Try.func13 (by kernel_rfl)
    (of_decide_eq_true (by kernel_rfl)) (by unfold Func.isWrapper; first | (rw [if_pos (by decide +kernel)]; kernel_rfl) | (rw [if_neg (by decide +kernel)]; exact ⟨rfl, rfl⟩))
    (fun os started H enc _ => lifted13 os started H enc)

end Go.Proofs.Ythpllmefbhjmmaa
