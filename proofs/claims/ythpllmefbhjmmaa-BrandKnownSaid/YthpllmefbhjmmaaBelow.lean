/-
  'Below': between what lies how many barrels can be below.
-/
import Derived.Test.YthpllmefbhjmmaaSides
import Derived.Test.YthpllmefbhjmmaaFewest
import Derived.Deep.LoopGhost
import Derived.OwnWalk
import Derived.Lib.SmallJoins
import Derived.Maps.AppendAt
import Derived.WalkMore
namespace Go.Proofs.Ythpllmefbhjmmaa
open Go.RowKit Go.Maps Plain

/-- Can j barrels be below? -/
def canB (N o f dof din j : Int) : Bool := decide (0 < fnd N j o 0 f * din - dof * cnt N o) && decide (0 < fnd N j o f o * din - dof * cnt N o)
/-- All numbers below k that can be. -/
def outTo (N o f dof din : Int) (k : Nat) : List Nat := (List.range k).filter fun j => canB N o f dof din j
theorem outTo_succ (N o f dof din : Int) (k : Nat) : outTo N o f dof din (k + 1) = outTo N o f dof din k ++ if canB N o f dof din k = true then [k] else [] := by
  unfold outTo
  rw [List.range_succ, List.filter_append, List.filter_cons]
  simp
theorem outTo_length (N o f dof din : Int) (k : Nat) : (outTo N o f dof din k).length ≤ k := by
  unfold outTo
  have := List.length_filter_le (fun j : Nat => canB N o f dof din j) (List.range k)
  simpa using this

/-- What 'Below' answers. -/
def belowR (N o f dof din : Int) : Int × Int × Int :=
  if inB N 1 40 = true ∧ inB o 0 N = true ∧ inB f 0 o = true then
    if oddsB dof din = true then
      match outTo N o f dof din (N.toNat + 1) with
      | [] => (0, 0, 4)
      | x :: l => ((x : Int), greatestL x ((x :: l).map fun n : Nat => (n : Int)), 0)
    else (0, 0, 71)
  else (0, 0, 7)

theorem info3 : (Try.prog.info? 3).map (fun i => (i.zero, i.size, i.bytes)) = some (some (.int .i64 0), 1, 8) := by kernel_rfl

def ints (l : List Nat) : List Value := l.map fun n : Nat => .int .i64 (n : Int)

/-- What holds throughout a round. W0: the world in which the loop began; L: the block of the lot; D: that of the doubt. -/
abbrev BelowS (W0 : World) (m L D : Nat) (N dof din : Int) (v : Value) (xs : List Value) (w' : World) : Prop :=
  w'.cell? ⟨L, 0, none⟩ = some (.int .i64 N) ∧ w'.cell? ⟨L, 1, none⟩ = some (.map (some m)) ∧ w'.cell? ⟨D, 0, none⟩ = some (.int .i64 dof) ∧ w'.cell? ⟨D, 1, none⟩ = some (.int .i64 din) ∧
    Memo w' m ∧ W0.grownBy w' (some m) ∧ w'.ownsRow W0.heap.size 3 1 v xs.length xs

theorem BelowS.step {W0 : World} {m L D : Nat} {N dof din : Int} {v : Value} {xs : List Value} {wa wb : World} (h : BelowS W0 m L D N dof din v xs wa) (hM : Memo wb m) (hG : wa.grownBy wb (some m)) (hlt : m < W0.heap.size) : BelowS W0 m L D N dof din v xs wb := by
  obtain ⟨h1, h2, h3, h4, h5, h6, h7⟩ := h
  have k : ∀ {a : Addr} {v : Value}, wa.cell? a = some v → wb.cell? a = some v := fun hc => hG.cell hc (fun e => h5.noCell hc (by injection e))
  exact ⟨k h1, k h2, k h3, k h4, hM, h6.trans hG, h7.kept hG (.inr (fun e => by have := (h7.lt m e).1; omega))⟩

theorem BelowS.below {W0 : World} {m L D : Nat} {N dof din : Int} {v : Value} {xs : List Value} {wa wb : World} (h : BelowS W0 m L D N dof din v xs wa) (hB : Below wa.heap.size wa wb) (hlt : m < W0.heap.size) : BelowS W0 m L D N dof din v xs wb :=
  h.step (h.2.2.2.2.1.kept (grown_of_below hB none) (by simp)) (grown_of_below hB _) hlt

theorem BelowS.drew {W0 : World} {m L D : Nat} {N dof din : Int} {v : Value} {xs : List Value} {wa : World} (h : BelowS W0 m L D N dof din v xs wa) : BelowS W0 m L D N dof din v xs wa.drew :=
  ⟨h.1, h.2.1, h.2.2.1, h.2.2.2.1, h.2.2.2.2.1, grown_drew h.2.2.2.2.2.1, h.2.2.2.2.2.2.drew⟩

theorem BelowS.append {W0 : World} {m L D : Nat} {N dof din : Int} {v v' : Value} {xs ys : List Value} {wa wb : World} {tmp : Obj} (h : BelowS W0 m L D N dof din v xs wa) (hG : (wa.alloc tmp).grownBy wb v.ownBlock) (ho : wb.ownsRow W0.heap.size 3 1 v' ys.length ys)
    (hm : m < W0.heap.size) (hL : L < W0.heap.size) (hD : D < W0.heap.size) : BelowS W0 m L D N dof din v' ys wb := by
  obtain ⟨h1, h2, h3, h4, h5, h6, h7⟩ := h
  have hb : ∀ r, v.ownBlock = some r → W0.heap.size ≤ r := fun r e => (h7.lt r e).1
  have k : ∀ {a : Addr} {u : Value}, a.block < W0.heap.size → wa.cell? a = some u → wb.cell? a = some u := fun {a u} hlt hc =>
    hG.cell (Eq.trans (World.cell?_alloc_lt _ _ _ (World.block_lt_of_cell? wa a hc)) hc) (fun e => by have := hb _ e.symm; omega)
  exact ⟨k hL h1, k hL h2, k hD h3, k hD h4, (h5.kept (World.grownBy_alloc _ tmp none) (by simp)).kept hG (fun e => by have := hb _ e.symm; omega), grown_far (h6.trans (World.grownBy_alloc _ tmp _)) hG (fun r e => hb r e), ho⟩

abbrev BelowT (W0 : World) (m L D Q : Nat) (N dof din : Int) (v : Value) (xs : List Value) (w' : World) : Prop :=
  w'.cell? ⟨Q, 1, none⟩ = some (.func (.func 100) #[] #[]) ∧ BelowS W0 m L D N dof din v xs w'

theorem BelowT.step {W0 : World} {m L D Q : Nat} {N dof din : Int} {v : Value} {xs : List Value} {wa wb : World} (h : BelowT W0 m L D Q N dof din v xs wa) (hM : Memo wb m) (hG : wa.grownBy wb (some m)) (hlt : m < W0.heap.size) : BelowT W0 m L D Q N dof din v xs wb :=
  ⟨hG.cell h.1 (fun e => h.2.2.2.2.2.1.noCell h.1 (by injection e)), h.2.step hM hG hlt⟩
theorem BelowT.below {W0 : World} {m L D Q : Nat} {N dof din : Int} {v : Value} {xs : List Value} {wa wb : World} (h : BelowT W0 m L D Q N dof din v xs wa) (hB : Below wa.heap.size wa wb) (hlt : m < W0.heap.size) : BelowT W0 m L D Q N dof din v xs wb :=
  h.step (h.2.2.2.2.2.1.kept (grown_of_below hB none) (by simp)) (grown_of_below hB _) hlt
theorem BelowT.drew {W0 : World} {m L D Q : Nat} {N dof din : Int} {v : Value} {xs : List Value} {wa : World} (h : BelowT W0 m L D Q N dof din v xs wa) : BelowT W0 m L D Q N dof din v xs wa.drew := ⟨h.1, h.2.drew⟩

set_option maxRecDepth 100000 in
set_option maxHeartbeats 3200000 in
theorem below_main (N o f dof din : Int) (w : World) (h1 : inB N 1 40 = true) (h2 : inB o 0 N = true) (h3 : inB f 0 o = true) (h4 : oddsB dof din = true) :
    Calls Try.prog 28 #[.int .i64 N, .int .i64 o, .int .i64 f, .agg #[.int .i64 dof, .int .i64 din]] w fun e w' => e = .returned (oddsV (belowR N o f dof din)) ∧ Below w.heap.size w w' := by
  obtain ⟨g1, g2⟩ := inB_true h1
  obtain ⟨g3, g4⟩ := inB_true h2
  obtain ⟨g5, g6⟩ := inB_true h3
  obtain ⟨g7, g8, g9, g10⟩ := oddsB_true h4
  have hres : belowR N o f dof din = match outTo N o f dof din (N.toNat + 1) with
      | [] => (0, 0, 4)
      | x :: l => ((x : Int), greatestL x ((x :: l).map fun n : Nat => (n : Int)), 0) := by unfold belowR; rw [if_pos ⟨h1, h2, h3⟩, if_pos h4]
  have Hres := Lib.hid hres
  have H1 := Lib.hid h1
  have H2 := Lib.hid h2
  have H3 := Lib.hid h3
  have H4 := Lib.hid h4
  clear h1 h2 h3 h4 hres
  obtain ⟨i0, hi, hz0, hz1, hz2⟩ := info_parts info3
  have Hi := Lib.hid hi
  have Hz0 := Lib.hid hz0
  have Hz1 := Lib.hid hz1
  have Hz2 := Lib.hid hz2
  clear hi hz0 hz1 hz2
  have hB := (below_alloc (w := w) (.cells #[.int .i64 dof, .int .i64 din] 34)).alloc (by simp) (.cells #[.int .i64 0, .int .i64 0] 47)
  go_enter Try.func28, Try.ntmps28
  go_wp2_with fail
  go_step3
  go_wp2_with fail
  refine (within_is _ _ _ _ H1.out).mono ?_
  rintro e w1 ⟨rfl, rfl⟩
  go_wp2_with fail
  refine (within_is _ _ _ _ H2.out).mono ?_
  rintro e w1 ⟨rfl, rfl⟩
  go_wp2_with fail
  refine (within_is _ _ _ _ H3.out).mono ?_
  rintro e w1 ⟨rfl, rfl⟩
  go_wp2_with fail
  refine (areOdds_is _ _ _ H4.out).mono ?_
  rintro e w1 ⟨rfl, hB1⟩
  have hB2 := below_trans hB hB1
  have D0 : TwoAt w1 w.heap.size (.int .i64 dof) (.int .i64 din) := TwoAt.below (by unfold TwoAt; go_simp) hB1 (by simp <;> omega)
  have S0 : TwoAt w1 (w.heap.size + 1) (.int .i64 0) (.int .i64 0) := TwoAt.below (by unfold TwoAt; go_simp) hB1 (by simp)
  have F0 : w1.frozen? ⟨w.heap.size + 1, 0, none⟩ = false := (hB1.frozen (by simp)).trans (by go_simp)
  have F1 : w1.frozen? ⟨w.heap.size + 1, 1, none⟩ = false := (hB1.frozen (by simp)).trans (by go_simp)
  have hz := hB1.size
  simp only [World.size_alloc] at hz
  clear hB hB1
  go_wp2_with fail
  refine (lotOf_any N _).mono ?_
  rintro e w2 ⟨rfl, hM2, hB3⟩
  have hB4 := below_trans hB2 hB3
  have D1 := D0.below hB3 (by omega)
  have S1 := S0.below hB3 (by omega)
  have F2 := (hB3.frozen (p := ⟨w.heap.size + 1, 0, none⟩) (by simp; omega)).trans F0
  have F3 := (hB3.frozen (p := ⟨w.heap.size + 1, 1, none⟩) (by simp; omega)).trans F1
  have hz2 := hB3.size
  have hm2 := hM2.lt
  clear D0 S0 F0 F1 hB2 hB3
  go_wp2_with fail
  go_step3
  go_wp2_with fail
  have hB5 := below_more hB4 (.cells #[.int .i64 N, .map (some (w1.heap.size + 1))] 103)
  have hM3 := hM2.kept (World.grownBy_alloc _ (.cells #[.int .i64 N, .map (some (w1.heap.size + 1))] 103) none) (by simp)
  have L1 : TwoAt (w2.alloc (.cells #[.int .i64 N, .map (some (w1.heap.size + 1))] 103)) w2.heap.size (.int .i64 N) (.map (some (w1.heap.size + 1))) := by unfold TwoAt; go_simp
  have D2 := D1.below (below_alloc (w := w2) (.cells #[.int .i64 N, .map (some (w1.heap.size + 1))] 103)) (by omega)
  have S2 := S1.below (below_alloc (w := w2) (.cells #[.int .i64 N, .map (some (w1.heap.size + 1))] 103)) (by omega)
  have F4 := ((below_alloc (w := w2) (.cells #[.int .i64 N, .map (some (w1.heap.size + 1))] 103)).frozen (p := ⟨w.heap.size + 1, 0, none⟩) (by simp; omega)).trans F2
  have F5 := ((below_alloc (w := w2) (.cells #[.int .i64 N, .map (some (w1.heap.size + 1))] 103)).frozen (p := ⟨w.heap.size + 1, 1, none⟩) (by simp; omega)).trans F3
  have hz3 : (w2.alloc (.cells #[.int .i64 N, .map (some (w1.heap.size + 1))] 103)).heap.size = w2.heap.size + 1 := by simp
  clear hB4 hM2 D1 S1 F2 F3
  obtain ⟨W0, hW0⟩ : ∃ W0, w2.alloc (.cells #[.int .i64 N, .map (some (w1.heap.size + 1))] 103) = W0 := ⟨_, rfl⟩
  rw [hW0] at hB5 hM3 L1 D2 S2 F4 F5 hz3 ⊢
  clear hW0
  generalize hL : w2.heap.size = L at *
  generalize hm : w1.heap.size + 1 = m at *
  have hmW : m < W0.heap.size := by omega
  have hz4 : w.heap.size + 1 < W0.heap.size := by omega
  have hz5 : w.heap.size + 1 < m := by omega
  have hz6 : L < W0.heap.size := by omega
  clear hz hz2 hz3 hm2 hL hm
  obtain ⟨n, rfl⟩ := Int.eq_ofNat_of_zero_le (show 0 ≤ N by omega)
  rw [Int.toNat_natCast] at Hres
  have Hst : Hid (BelowS W0 m L w.heap.size n dof din (.slice none 0 0) (ints (outTo n o f dof din 0)) W0) :=
    ⟨L1.1, L1.2, D2.1, D2.2, hM3, ⟨rfl, rfl, rfl, Nat.le_refl _, fun _ _ _ => rfl⟩, World.ownsRow_nil _ _ _ _⟩
  clear hM3 L1 D2
  go_loopg [11, 43] (n + 1) (fun g out i wr => ∃ k : Nat, g + k = n + 1 ∧ i = .int .i64 k ∧ BelowS W0 m L w.heap.size n dof din out (ints (outTo n o f dof din k)) wr)
  case atStart => exact ⟨0, rfl, rfl, Hst.out⟩
  case round =>
    obtain ⟨k, hk, rfl, hS⟩ := hrel
    have Hk := Lib.hid hk
    by_cases hlt : k < n + 1
    · have hlt1 : (k : Int) < (n : Int) + 1 := by omega
      have hk0 : (0 : Int) ≤ k := by omega
      have Hs := Lib.hid hS
      clear hS hk
      generalize hv : u11 = v at *
      clear hv
      obtain ⟨x1, hx1⟩ : ∃ x, fnd n k o 0 f * din - dof * cnt n o = x := ⟨_, rfl⟩
      obtain ⟨x2, hx2⟩ : ∃ x, fnd n k o f o * din - dof * cnt n o = x := ⟨_, rfl⟩
      have Hcan : Hid (canB n o f dof din k = (decide (0 < x1) && decide (0 < x2))) := by show canB _ _ _ _ _ _ = _; unfold canB; rw [hx1, hx2]
      have Hx1 := Lib.hid hx1
      have Hx2 := Lib.hid hx2
      clear hx1 hx2
      go_wp2_with fail
      refine (sides_any _).mono ?_
      rintro e w3 ⟨rfl, rfl⟩
      have Hs1 := Lib.hid (Hs.out.below (below_alloc (w := wr) (.cells #[.func (.func 99) #[] #[], .func (.func 100) #[] #[]] 122)) hmW)
      have e0 : (wr.alloc (.cells #[.func (.func 99) #[] #[], .func (.func 100) #[] #[]] 122)).cell? ⟨wr.heap.size, 0, none⟩ = some (.func (.func 99) #[] #[]) := by go_simp
      have e1 : (wr.alloc (.cells #[.func (.func 99) #[] #[], .func (.func 100) #[] #[]] 122)).cell? ⟨wr.heap.size, 1, none⟩ = some (.func (.func 100) #[] #[]) := by go_simp
      obtain ⟨wa, hwa⟩ : ∃ wa, wr.alloc (.cells #[.func (.func 99) #[] #[], .func (.func 100) #[] #[]] 122) = wa := ⟨_, rfl⟩
      rw [hwa] at Hs1 e0 e1 ⊢
      clear hwa
      generalize wr.heap.size = Q at *
      go_wp2_with fail
      refine wp_loop_rounds 3 ?_
      rw [rounds_succ]
      go_wp2_with fail
      refine (side1_any f o _).mono ?_
      rintro e w4 ⟨rfl, rfl⟩
      have Hs2 : Hid (BelowT W0 m L w.heap.size Q n dof din v (ints (outTo n o f dof din k)) (wa.alloc (.cells #[.func (.func 99) #[] #[]] 122))) :=
        BelowT.below ⟨e1, Hs1.out⟩ (below_alloc _) hmW
      go_wp2_with fail
      go_region_held3 (fun w' => w'.cell? ⟨Q, 1, none⟩ = some (.func (.func 100) #[] #[]) ∧ w'.cell? ⟨L, 0, none⟩ = some (.int .i64 (n : Int)) ∧ w'.cell? ⟨L, 1, none⟩ = some (.map (some m)) ∧ w'.cell? ⟨w.heap.size, 0, none⟩ = some (.int .i64 dof) ∧ w'.cell? ⟨w.heap.size, 1, none⟩ = some (.int .i64 din) ∧ Memo w' m ∧ W0.grownBy w' (some m) ∧ w'.ownsRow W0.heap.size 3 1 v (ints (outTo n o f dof din k)).length (ints (outTo n o f dof din k)))
        (first | exact Hs2.out.drew | exact BelowT.step (by assumption) hM hG hmW | exact BelowT.below (by assumption) hBc hmW)
        (first
          | (go_at_call 77; refine (found_any n k o _ _ _ m g2 (by omega) (by omega) g3 g4 (by omega) (by omega) (by omega) (by go_split_ands; assumption)).mono ?_; rintro e w5 ⟨rfl, hM, hG⟩)
          | (go_at_call 78; refine (compare_is _ _ _ _ _ (fnd_nonneg _ _ _ _ _) (fnd_le _ _ _ _ _ (by omega) (by omega) g2 (by omega) (by omega)) (cnt_nonneg _ _) (cnt_le _ _ g2) g9 (by omega) (by omega) g8 Hx1.out).mono ?_; rintro e w6 ⟨rfl, hBc⟩))
      have hT : BelowT W0 m L w.heap.size Q n dof din v (ints (outTo n o f dof din k)) w6 := by assumption
      have Ht := Lib.hid hT
      clear hT hM hG hBc
      by_cases hc1 : x1 ≤ 0
      · have hd1 : decide (x1 ≤ 0) = true := by simpa using hc1
        have Ho : Hid (outTo n o f dof din (k + 1) = outTo n o f dof din k) := by
          show _ = _
          rw [outTo_succ, Hcan.out, show decide (0 < x1) = false by simp; omega]; simp
        go_wp2_with fail
        go_roundg (n - k)
        case measure => have := Hk.out; omega
        case rel => exact ⟨k + 1, by have := Hk.out; omega, by go_num, by rw [Ho.out]; exact Ht.out.2⟩
      · have hd1 : decide (x1 ≤ 0) = false := by simpa using hc1
        obtain ⟨e1', _⟩ := Ht.out
        go_wp2_with fail
        rw [rounds_succ]
        go_wp2_with fail
        refine (side2_any f o _).mono ?_
        rintro e w7 ⟨rfl, rfl⟩
        have Hs3 : Hid (BelowT W0 m L w.heap.size Q n dof din v (ints (outTo n o f dof din k)) (w6.alloc (.cells #[.func (.func 100) #[] #[]] 122))) :=
          BelowT.below Ht.out (below_alloc _) hmW
        go_wp2_with fail
        go_region_held3 (fun w' => w'.cell? ⟨Q, 1, none⟩ = some (.func (.func 100) #[] #[]) ∧ w'.cell? ⟨L, 0, none⟩ = some (.int .i64 (n : Int)) ∧ w'.cell? ⟨L, 1, none⟩ = some (.map (some m)) ∧ w'.cell? ⟨w.heap.size, 0, none⟩ = some (.int .i64 dof) ∧ w'.cell? ⟨w.heap.size, 1, none⟩ = some (.int .i64 din) ∧ Memo w' m ∧ W0.grownBy w' (some m) ∧ w'.ownsRow W0.heap.size 3 1 v (ints (outTo n o f dof din k)).length (ints (outTo n o f dof din k)))
          (first | exact Hs3.out.drew | exact BelowT.step (by assumption) hM hG hmW | exact BelowT.below (by assumption) hBc hmW)
          (first
            | (go_at_call 77; refine (found_any n k o _ _ _ m g2 (by omega) (by omega) g3 g4 (by omega) (by omega) (by omega) (by go_split_ands; assumption)).mono ?_; rintro e w5 ⟨rfl, hM, hG⟩)
            | (go_at_call 78; refine (compare_is _ _ _ _ _ (fnd_nonneg _ _ _ _ _) (fnd_le _ _ _ _ _ (by omega) (by omega) g2 (by omega) (by omega)) (cnt_nonneg _ _) (cnt_le _ _ g2) g9 (by omega) (by omega) g8 Hx2.out).mono ?_; rintro e w6 ⟨rfl, hBc⟩))
        have hT : BelowT W0 m L w.heap.size Q n dof din v (ints (outTo n o f dof din k)) w6 := by assumption
        have Ht2 := Lib.hid hT
        clear hT hM hG hBc
        by_cases hc2 : x2 ≤ 0
        · have hd2 : decide (x2 ≤ 0) = true := by simpa using hc2
          have Ho : Hid (outTo n o f dof din (k + 1) = outTo n o f dof din k) := by
            show _ = _
            rw [outTo_succ, Hcan.out, show decide (0 < x2) = false by simp; omega]; simp
          go_wp2_with fail
          go_roundg (n - k)
          case measure => have := Hk.out; omega
          case rel => exact ⟨k + 1, by have := Hk.out; omega, by go_num, by rw [Ho.out]; exact Ht2.out.2⟩
        · have hd2 : decide (x2 ≤ 0) = false := by simpa using hc2
          have Ho : Hid (ints (outTo n o f dof din (k + 1)) = ints (outTo n o f dof din k) ++ [.int .i64 (k : Int)]) := by
            show _ = _
            rw [outTo_succ, Hcan.out, show decide (0 < x1) = true by simp; omega, show decide (0 < x2) = true by simp; omega]; simp [ints]
          have hlen : (ints (outTo n o f dof din k)).length ≤ 41 := by have := outTo_length n o f dof din k; simp only [ints, List.length_map]; omega
          have hsz := Ht2.out.2.2.2.2.2.2.1.size
          have hown := Ht2.out.2.2.2.2.2.2.2
          go_wp2_with fail
          rw [rounds_succ]
          go_wp2_with (at_builtin; refine wpList_append_own _ rfl _ _ 52 rfl W0.heap.size 3 i0 (.int .i64 0) 1 8 Try.underlying52 Hi.out Hz0.out Hz1.out Hz2.out rfl (by decide) _ _ _ rfl (hown.alloc _) ⟨w6.heap.size, 0, none⟩ 1 1 [.int .i64 (k : Int)] rfl rfl ?c1 ?c2 ?c3 ?c4 ?c5 ?_)
          case c1 => exact cell_one_new _ _ _
          case c2 => simp [Value.oneCell']
          case c3 => unfold maxLen; omega
          case c4 => omega
          case c5 => simp; omega
          intro v' w8 hown' hgrow _
          have hS8 := Ht2.out.2.append hgrow (by rw [List.length_append]; exact hown') hmW hz6 (by omega)
          rw [← Ho.out] at hS8
          have Hs8 := Lib.hid hS8
          clear hS8 hgrow hown' hown
          go_wp2_with fail
          go_roundg (n - k)
          case measure => have := Hk.out; omega
          case rel => exact ⟨k + 1, by have := Hk.out; omega, by go_num, Hs8.out⟩
    · obtain rfl : k = n + 1 := by omega
      have hlt1 : ¬ ((n + 1 : Nat) : Int) < (n : Int) + 1 := by omega
      obtain ⟨_, _, _, _, _, hG, hown⟩ := hS
      have hBw := hB5.trans (below_of_grown (B := w.heap.size) hG hB5.size (by omega))
      obtain ⟨s0, s1⟩ := S2.grown hG (by omega)
      have f0 : wr.frozen? ⟨w.heap.size + 1, 0, none⟩ = false := (World.frozen?_of_block (hG.block (w.heap.size + 1) (by omega) (by simp; omega))).trans F4
      have f1 : wr.frozen? ⟨w.heap.size + 1, 1, none⟩ = false := (World.frozen?_of_block (hG.block (w.heap.size + 1) (by omega) (by simp; omega))).trans F5
      generalize u11 = v at *
      cases hout : outTo n o f dof din (n + 1) with
      | nil =>
        rw [hout] at hown
        obtain ⟨a, cap, rfl⟩ : ∃ a cap, v = .slice a 0 cap := by
          rcases hown.2 with ⟨rfl, _⟩ | ⟨g, cap, cur, rfl, _⟩
          · exact ⟨_, _, rfl⟩
          · exact ⟨_, _, rfl⟩
        have He : Hid (belowR n o f dof din = (0, 0, 4)) := by show _ = _; rw [Hres.out, hout]
        have Hbw := Lib.hid hBw
        clear hout hown hG hBw hk
        go_wp2_with fail
        refine bodyPost_ret (v := oddsV (0, 0, 4)) (by simp [results, Try.results28, go_sem, s0, s1]) rfl ⟨by rw [He.out], ?_⟩
        exact (Hbw.out.setCell (p := ⟨w.heap.size + 1, 0, none⟩) (by simp) _).setCell (p := ⟨w.heap.size + 1, 1, none⟩) (by simp) _
      | cons x l =>
        rw [hout] at hown
        have hlen : (x :: l).length ≤ n + 1 := by rw [← hout]; exact outTo_length _ _ _ _ _ _
        have hcs : (ints (x :: l)).length = ((x :: l).map fun n : Nat => (n : Int)).length := by simp [ints]
        rw [hcs] at hown
        have hlen2 : ((x :: l).map fun n : Nat => (n : Int)).length ≤ n + 1 := by simpa using hlen
        obtain ⟨g, cap, rfl⟩ := Joins.ownsRow_form hown (by simp)
        have hgb := (hown.lt g rfl).1
        have hint : IntsAt wr (.slice (some ⟨g, 0, none⟩) ((x :: l).map fun n : Nat => (n : Int)).length cap) ((x :: l).map fun n : Nat => (n : Int)) := by
          refine ⟨_, cap, rfl, fun i z hz => ⟨g, 0, rfl, ?_⟩⟩
          have hi : i < ((x :: l).map fun n : Nat => (n : Int)).length := by
            rcases Nat.lt_or_ge i ((x :: l).map fun n : Nat => (n : Int)).length with h | h
            · exact h
            · rw [List.getElem?_eq_none h] at hz; cases hz
          rw [Nat.zero_add, hown.cellAt i (by omega)]
          simp only [ints, List.getElem?_map, Option.map_eq_some_iff] at hz ⊢
          obtain ⟨y, hy, rfl⟩ := hz
          exact ⟨y, hy, rfl⟩
        have hx0 : wr.cell? ⟨g, 0, none⟩ = some (.int .i64 (x : Int)) := by
          rw [hown.cellAt 0 (by simp)]; rfl
        have He : Hid (belowR n o f dof din = ((x : Int), greatestL x ((x :: l).map fun n : Nat => (n : Int)), 0)) := by show _ = _; rw [Hres.out, hout]
        have hpos : 0 < ((x :: l).map fun n : Nat => (n : Int)).length := by simp
        generalize hys : ((x :: l).map fun n : Nat => (n : Int)) = ys at *
        generalize hy : greatestL x ys = y at *
        have Hy := Lib.hid hy
        have Hint : Hid (IntsAt wr.drew (.slice (some ⟨g, 0, none⟩) ys.length cap) ys) := hint
        have Hbw := Lib.hid hBw
        have hpos0 : ((ys.length : Int) == 0) = false := beq_eq_false_iff_ne.2 (by omega)
        have hpos1 : (0 : Int) < (ys.length : Int) := by omega
        have Haft : Hid (∀ p q : Value, ((wr.setCell ⟨w.heap.size + 1, 0, none⟩ p).setCell ⟨w.heap.size + 1, 1, none⟩ q).drew.cell? ⟨g, 0, none⟩ = some (.int .i64 (x : Int))) := fun p q => by
          show (World.setCell _ _ _).cell? _ = _
          rw [World.cell?_setCell_far _ _ _ _ (by simp; omega), World.cell?_setCell_far _ _ _ _ (by simp; omega)]; exact hx0
        clear hout hown hG hBw hk hint hcs hys hy
        go_wp2_with fail
        go_region_held3 (fun w' => w'.cell? ⟨g, 0, none⟩ = some (.int .i64 (x : Int)))
          (first | exact hx0 | exact Haft.out _ _)
          (first | (go_at_call 79; refine (greatest_is (x : Int) _ ys _ Hint.out (by omega) Hy.out).mono ?_; rintro e w5 ⟨rfl, rfl⟩))
        go_wp2_with fail
        rw [Exit.noGoto_ret]
        refine bodyPost_ret (v := oddsV (x, y, 0)) (by simp [results, Try.results28, go_sem, s0, s1]) rfl ⟨by rw [He.out], ?_⟩
        exact ((Hbw.out.setCell (p := ⟨w.heap.size + 1, 0, none⟩) (by simp) _).setCell (p := ⟨w.heap.size + 1, 1, none⟩) (by simp) _).drew

set_option maxRecDepth 100000 in
set_option maxHeartbeats 800000 in
theorem below_range (N o f dof din : Int) (w : World) (h : ¬ (inB N 1 40 = true ∧ inB o 0 N = true ∧ inB f 0 o = true)) :
    Calls Try.prog 28 #[.int .i64 N, .int .i64 o, .int .i64 f, .agg #[.int .i64 dof, .int .i64 din]] w fun e w' => e = .returned (oddsV (0, 0, 7)) ∧ Below w.heap.size w w' := by
  have hB := (below_alloc (w := w) (.cells #[.int .i64 dof, .int .i64 din] 34)).alloc (by simp) (.cells #[.int .i64 0, .int .i64 0] 47)
  cases h1 : inB N 1 40 with
  | false =>
    have H1 := Lib.hid h1
    clear h1 h
    go_enter Try.func28, Try.ntmps28
    go_wp2_with fail
    go_step3
    go_wp2_with fail
    refine (within_is _ _ _ _ H1.out).mono ?_
    rintro e w1 ⟨rfl, rfl⟩
    go_wp2_with fail
    try rw [Exit.noGoto_ret]
    exact bodyPost_ret (v := oddsV (0, 0, 7)) (by simp [results, Try.results28, go_sem]) rfl ⟨rfl, hB⟩
  | true =>
  cases h2 : inB o 0 N with
  | false =>
    have H1 := Lib.hid h1
    have H2 := Lib.hid h2
    clear h1 h2 h
    go_enter Try.func28, Try.ntmps28
    go_wp2_with fail
    go_step3
    go_wp2_with fail
    refine (within_is _ _ _ _ H1.out).mono ?_
    rintro e w1 ⟨rfl, rfl⟩
    go_wp2_with fail
    refine (within_is _ _ _ _ H2.out).mono ?_
    rintro e w1 ⟨rfl, rfl⟩
    go_wp2_with fail
    try rw [Exit.noGoto_ret]
    exact bodyPost_ret (v := oddsV (0, 0, 7)) (by simp [results, Try.results28, go_sem]) rfl ⟨rfl, hB⟩
  | true =>
    have h3 : inB f 0 o = false := by
      cases hb : inB f 0 o
      · rfl
      · exact absurd ⟨h1, h2, hb⟩ h
    have H1 := Lib.hid h1
    have H2 := Lib.hid h2
    have H3 := Lib.hid h3
    clear h1 h2 h3 h
    go_enter Try.func28, Try.ntmps28
    go_wp2_with fail
    go_step3
    go_wp2_with fail
    refine (within_is _ _ _ _ H1.out).mono ?_
    rintro e w1 ⟨rfl, rfl⟩
    go_wp2_with fail
    refine (within_is _ _ _ _ H2.out).mono ?_
    rintro e w1 ⟨rfl, rfl⟩
    go_wp2_with fail
    refine (within_is _ _ _ _ H3.out).mono ?_
    rintro e w1 ⟨rfl, rfl⟩
    go_wp2_with fail
    try rw [Exit.noGoto_ret]
    exact bodyPost_ret (v := oddsV (0, 0, 7)) (by simp [results, Try.results28, go_sem]) rfl ⟨rfl, hB⟩

set_option maxRecDepth 100000 in
set_option maxHeartbeats 800000 in
theorem below_rule (N o f dof din : Int) (w : World) (h1 : inB N 1 40 = true) (h2 : inB o 0 N = true) (h3 : inB f 0 o = true) (h4 : oddsB dof din = false) :
    Calls Try.prog 28 #[.int .i64 N, .int .i64 o, .int .i64 f, .agg #[.int .i64 dof, .int .i64 din]] w fun e w' => e = .returned (oddsV (0, 0, 71)) ∧ Below w.heap.size w w' := by
  have hB := (below_alloc (w := w) (.cells #[.int .i64 dof, .int .i64 din] 34)).alloc (by simp) (.cells #[.int .i64 0, .int .i64 0] 47)
  have H1 := Lib.hid h1
  have H2 := Lib.hid h2
  have H3 := Lib.hid h3
  have H4 := Lib.hid h4
  clear h1 h2 h3 h4
  go_enter Try.func28, Try.ntmps28
  go_wp2_with fail
  go_step3
  go_wp2_with fail
  refine (within_is _ _ _ _ H1.out).mono ?_
  rintro e w1 ⟨rfl, rfl⟩
  go_wp2_with fail
  refine (within_is _ _ _ _ H2.out).mono ?_
  rintro e w1 ⟨rfl, rfl⟩
  go_wp2_with fail
  refine (within_is _ _ _ _ H3.out).mono ?_
  rintro e w1 ⟨rfl, rfl⟩
  go_wp2_with fail
  refine (areOdds_is _ _ _ H4.out).mono ?_
  rintro e w1 ⟨rfl, hB1⟩
  have hB2 := below_trans hB hB1
  have S0 : TwoAt w1 (w.heap.size + 1) (.int .i64 0) (.int .i64 0) := TwoAt.below (by unfold TwoAt; go_simp) hB1 (by simp)
  have F0 : w1.frozen? ⟨w.heap.size + 1, 0, none⟩ = false := (hB1.frozen (by simp)).trans (by go_simp)
  have F1 : w1.frozen? ⟨w.heap.size + 1, 1, none⟩ = false := (hB1.frozen (by simp)).trans (by go_simp)
  obtain ⟨s0, s1⟩ := S0
  clear hB hB1
  go_wp2_with fail
  try rw [Exit.noGoto_ret]
  refine bodyPost_ret (v := oddsV (0, 0, 71)) (by simp [results, Try.results28, go_sem, s0, s1]) rfl ⟨rfl, ?_⟩
  exact (hB2.setCell (p := ⟨w.heap.size + 1, 0, none⟩) (by simp) _).setCell (p := ⟨w.heap.size + 1, 1, none⟩) (by simp) _

/-- 'Below', at whatever numbers. -/
theorem below_any (N o f dof din : Int) (w : World) :
    Calls Try.prog 28 #[.int .i64 N, .int .i64 o, .int .i64 f, .agg #[.int .i64 dof, .int .i64 din]] w fun e w' => e = .returned (oddsV (belowR N o f dof din)) ∧ Below w.heap.size w w' := by
  by_cases h : inB N 1 40 = true ∧ inB o 0 N = true ∧ inB f 0 o = true
  · cases h4 : oddsB dof din with
    | true => exact below_main N o f dof din w h.1 h.2.1 h.2.2 h4
    | false =>
      have e : belowR N o f dof din = (0, 0, 71) := by unfold belowR; rw [if_pos h, if_neg (by simp [h4])]
      rw [e]; exact below_rule N o f dof din w h.1 h.2.1 h.2.2 h4
  · have e : belowR N o f dof din = (0, 0, 7) := by unfold belowR; rw [if_neg h]
    rw [e]; exact below_range N o f dof din w h

end Go.Proofs.Ythpllmefbhjmmaa
