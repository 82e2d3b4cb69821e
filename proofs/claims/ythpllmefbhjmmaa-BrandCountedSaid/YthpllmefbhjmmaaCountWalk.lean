/-
  The walk of 'BrandCounted': it answers true, for any numbers that fit; all else stays as it was.
-/
import Derived.Test.YthpllmefbhjmmaaCountMore
import Derived.Test.YthpllmefbhjmmaaTwoF
import Derived.Test.YthpllmefbhjmmaaGcdQ
import Derived.Test.YthpllmefbhjmmaaArgNum
import Derived.Deep.DeepCutAuto
namespace Go.Proofs.Ythpllmefbhjmmaa
open Go.ChangeShapes Go.WideShapes Go.ChangeAt Go.RowKit Plain
attribute [local go_sem] Oper.semAt_some

/-- Of the first k sets: those of o barrels; those of these that pass. -/
def allTo (o : Nat) (k : Nat) : Nat := (List.range k).countP fun s => bitsN s == o
def passTo (b a o : Nat) (k : Nat) : Nat := (List.range k).countP fun s => (bitsN s == o) && decide (bitsN (s % 2 ^ b) ≤ a)
theorem allTo_succ (o k : Nat) : allTo o (k + 1) = allTo o k + if bitsN k == o then 1 else 0 := by
  unfold allTo; rw [List.range_succ, List.countP_append]; simp [List.countP_cons]
theorem passTo_succ (b a o k : Nat) : passTo b a o (k + 1) = passTo b a o k + if (bitsN k == o) && decide (bitsN (k % 2 ^ b) ≤ a) then 1 else 0 := by
  unfold passTo; rw [List.range_succ, List.countP_append]; simp [List.countP_cons]
theorem allTo_le (o k : Nat) : allTo o k ≤ k := by unfold allTo; have := List.countP_le_length (p := fun s => bitsN s == o) (l := List.range k); simpa using this
theorem passTo_le (b a o k : Nat) : passTo b a o k ≤ k := by unfold passTo; have := List.countP_le_length (p := fun s => (bitsN s == o) && decide (bitsN (s % 2 ^ b) ≤ a)) (l := List.range k); simpa using this

set_option maxRecDepth 100000 in
set_option maxHeartbeats 3200000 in
theorem law10 (x : Br) (w : World) (h0 : fits x.b0) (h1 : fits x.b1) (h2 : fits x.b2) (h3 : fits x.b3) :
    Calls Try.prog 10 #[brV x] w fun e w' => e = .returned (.bool true) ∧ Below w.heap.size w w' := by
  obtain ⟨n0, n1, n2, n3⟩ := x
  obtain ⟨a0, b0⟩ := h0
  obtain ⟨a1, b1⟩ := h1
  obtain ⟨a2, b2⟩ := h2
  obtain ⟨a3, b3⟩ := h3
  simp only at a0 b0 a1 b1 a2 b2 a3 b3
  have m0 := Int.emod_nonneg n0 (show (10 : Int) ≠ 0 by omega)
  have m1 := Int.emod_lt_of_pos n0 (show (0 : Int) < 10 by omega)
  have hB := below_alloc (w := w) (.cells #[.int .i64 n0, .int .i64 n1, .int .i64 n2, .int .i64 n3] 23)
  have hX : BrAt (w.alloc (.cells #[.int .i64 n0, .int .i64 n1, .int .i64 n2, .int .i64 n3] 23)) w.heap.size 0 ⟨n0, n1, n2, n3⟩ := by unfold BrAt; go_simp
  have hl : w.heap.size < (w.alloc (.cells #[.int .i64 n0, .int .i64 n1, .int .i64 n2, .int .i64 n3] 23)).heap.size := by simp
  go_enter Try.func10, Try.ntmps10
  go_wp2_with fail
  refine (mod_is n0 10 _ a0 b0 (by omega) (by omega)).mono ?_
  rintro e w1 ⟨rfl, rfl⟩
  obtain ⟨N, hN⟩ : ∃ N : Nat, 1 + n0 % 10 = N := ⟨(1 + n0 % 10).toNat, by omega⟩
  have hN1 : 1 ≤ N := by omega
  have hN2 : N ≤ 10 := by omega
  obtain ⟨W, hW⟩ : ∃ W, w.alloc (.cells #[.int .i64 n0, .int .i64 n1, .int .i64 n2, .int .i64 n3] 23) = W := ⟨_, rfl⟩
  rw [hW] at hB hX hl ⊢
  clear hW
  obtain ⟨x0, x1, x2, x3⟩ := hX
  simp only at x0 x1 x2 x3
  go_wp2_with fail
  have t1 := Int.emod_nonneg n1 (show (N : Int) + 1 ≠ 0 by omega)
  have t2 := Int.emod_lt_of_pos n1 (show 0 < (N : Int) + 1 by omega)
  have t3 := Int.emod_nonneg n2 (show (N : Int) + 1 ≠ 0 by omega)
  have t4 := Int.emod_lt_of_pos n2 (show 0 < (N : Int) + 1 by omega)
  obtain ⟨b, hb⟩ : ∃ b : Nat, n1 % ((N : Int) + 1) = b := ⟨_, (Int.toNat_of_nonneg t1).symm⟩
  obtain ⟨o, ho⟩ : ∃ o : Nat, n2 % ((N : Int) + 1) = o := ⟨_, (Int.toNat_of_nonneg t3).symm⟩
  have hb1 : b ≤ N := by omega
  have ho1 : o ≤ N := by omega
  clear hN m0 m1 t1 t2 t3 t4
  have Hb := Lib.hid hb
  have Ho := Lib.hid ho
  clear hb ho
  have hw1 : IntKind.i64.wrap ((N : Int) + 1) = N + 1 := IntWalk.i64_in _ (by omega)
  go_quiet ((go_at_call 33; refine Calls.quiet_of_same (mod_q _ _ _ (by omega) (by omega) (by omega) (by omega))))
  rw [Hb.out, Ho.out]
  clear hw1
  obtain ⟨W1, hW1⟩ : ∃ W1, W.drewN nq = W1 := ⟨_, rfl⟩
  have HBd : Hid (Below w.heap.size w (W.drewN nq)) := below_drewN hB _
  have x3' : (W.drewN nq).cell? ⟨w.heap.size, 3, none⟩ = some (.int .i64 n3) := x3
  rw [hW1] at HBd x3' ⊢
  clear hW1 x0 x1 x2 x3 hB hl Hb Ho
  go_wp2_with fail
  have t1 := Int.emod_nonneg n3 (show (o : Int) + 1 ≠ 0 by omega)
  have t2 := Int.emod_lt_of_pos n3 (show 0 < (o : Int) + 1 by omega)
  refine (mod_is n3 (o + 1) _ a3 b3 (by omega) (by omega)).mono ?_
  rintro e w2 ⟨rfl, rfl⟩
  obtain ⟨a, ha⟩ : ∃ a : Nat, n3 % ((o : Int) + 1) = a := ⟨_, (Int.toNat_of_nonneg t1).symm⟩
  have ha1 : a ≤ o := by omega
  rw [ha]
  clear x3' ha t1 t2 a0 b0 a1 b1 a2 b2 a3 b3
  go_wp2_with fail
  obtain ⟨T, hT⟩ : ∃ T, 2 ^ N = T := ⟨_, rfl⟩
  obtain ⟨M, hM⟩ : ∃ M, 2 ^ b = M := ⟨_, rfl⟩
  have hT1 : T ≤ 1024 := by rw [← hT]; exact two_pow_le (m := 10) hN2
  have hM1 : M ≤ 1024 := by rw [← hM]; exact two_pow_le (m := 10) (by omega)
  have hM0 : 1 ≤ M := by rw [← hM]; exact Nat.one_le_two_pow
  have e1 : (2 : Int) ^ N = (T : Int) := by rw [← hT]; push_cast; rfl
  have e2 : (2 : Int) ^ b = (M : Int) := by rw [← hM]; push_cast; rfl
  have HTT := Lib.hid hT
  have HMM := Lib.hid hM
  clear hT hM
  go_loop [7, 8, 9] (fun p q s => ∃ k : Nat, k ≤ T ∧ s = .int .i64 (k : Nat) ∧ q = .int .i64 (allTo o k : Nat) ∧ p = .int .i64 (passTo b a o k : Nat)) (fun _ _ s => T - (intOf s).toNat)
  case atStart => exact ⟨0, by omega, rfl, rfl, rfl⟩
  case round =>
    obtain ⟨k, hk, rfl, rfl, rfl⟩ := hrel
    by_cases hlt : k < T
    · have hA := allTo_le o k
      have hP := passTo_le b a o k
      have hsA := allTo_succ o k
      have hsP := passTo_succ b a o k
      rw [HMM.out] at hsP
      go_wp2_with fail
      refine (bits_is k _ (by omega)).mono ?_
      rintro e w3 ⟨rfl, rfl⟩
      by_cases hc : bitsN k = o
      · rw [hc] at hsA hsP ⊢
        rw [if_pos (by simp)] at hsA
        obtain ⟨R, hR⟩ : ∃ R, k % M = R := ⟨_, rfl⟩
        have hRl : R ≤ k := by rw [← hR]; exact Nat.mod_le _ _
        have eAnd : bits .and .i64 (k : Int) ((M : Int) - 1) = (R : Int) := by
          have := bits_mask k b (by omega) (by rw [HMM.out]; omega)
          rw [HMM.out, hR, show ((M - 1 : Nat) : Int) = (M : Int) - 1 by omega] at this
          exact this
        rw [hR] at hsP
        by_cases hd : bitsN R ≤ a
        · rw [if_pos (by simp [hd])] at hsP
          have HA := Lib.hid hsA
          have HP := Lib.hid hsP
          clear hsA hsP hc hR
          go_wp2_with fail
          refine (bits_is R _ (by omega)).mono ?_
          rintro e w4 ⟨rfl, rfl⟩
          go_wp2_with fail
          go_round
          case rel => exact ⟨k + 1, by omega, by go_num, by rw [HA.out]; go_num, by rw [HP.out]; go_num⟩
          case measure => simp [intOf]; omega
        · rw [if_neg (by simp [hd])] at hsP
          have HA := Lib.hid hsA
          have HP := Lib.hid hsP
          clear hsA hsP hc hR
          go_wp2_with fail
          refine (bits_is R _ (by omega)).mono ?_
          rintro e w4 ⟨rfl, rfl⟩
          go_wp2_with fail
          go_round
          case rel => exact ⟨k + 1, by omega, by go_num, by rw [HA.out]; go_num, by rw [HP.out]; rfl⟩
          case measure => simp [intOf]; omega
      · rw [if_neg (by simpa using hc)] at hsA
        rw [if_neg (by simp [hc])] at hsP
        have HA := Lib.hid hsA
        have HP := Lib.hid hsP
        clear hsA hsP
        generalize bitsN k = c at *
        have hc1 : ((c : Int) == (o : Int)) = false := by simp; omega
        have hc2 : ((c : Int) != (o : Int)) = true := by simp; omega
        go_wp2_with fail
        go_round
        case rel => exact ⟨k + 1, by omega, by go_num, by rw [HA.out]; rfl, by rw [HP.out]; rfl⟩
        case measure => simp [intOf]; omega
    · obtain rfl : k = T := by omega
      have hall : (allTo o k : Int) = cnt N o := by unfold allTo; rw [← HTT.out, count_all, cnt_nat]
      have hpass : (passTo b a o k : Int) = fnd N b o 0 a := by
        have := count_pass b a (N - b) o
        rw [show b + (N - b) = N by omega, HTT.out] at this
        exact this
      have hAk := allTo_le o k
      have iN := inB_mk (n := (N : Int)) (lo := 1) (hi := 40) ⟨by omega, by omega⟩
      have ib := inB_mk (n := (b : Int)) (lo := 0) (hi := N) ⟨by omega, by omega⟩
      have io := inB_mk (n := (o : Int)) (lo := 0) (hi := N) ⟨by omega, by omega⟩
      have ia := inB_mk (n := (a : Int)) (lo := 0) (hi := o) ⟨by omega, by omega⟩
      have Z0 := Lib.hid (oddsR_good iN ib io ia)
      have hF0 := fnd_nonneg N b o 0 a
      have hC0 := cnt_pos N o (by omega) (by omega)
      have hb3 := red_bounds hF0 hC0 (fnd_le_all (n := (o : Int)) (a := (a : Int)) (show (0 : Int) ≤ b by omega) (by omega) (by omega))
      have hx := red_cross hF0 hC0
      have hg := gcdI_red hF0 hC0
      generalize fnd N b o 0 a / gcdI (fnd N b o 0 a) (cnt N o) = p1 at *
      generalize cnt N o / gcdI (fnd N b o 0 a) (cnt N o) = p2 at *
      rw [← hall] at hx hb3
      rw [← hpass] at hx
      clear hall hpass hF0 hC0 iN ib io ia
      generalize allTo o k = A at *
      generalize passTo b a o k = P at *
      obtain ⟨hb4, hb5, hb6, hb7⟩ := hb3
      obtain ⟨X, hX⟩ : ∃ X, p1 * (A : Int) = X := ⟨_, rfl⟩
      have hX0 : 0 ≤ X := by rw [← hX]; exact Int.mul_nonneg hb4 (by omega)
      have hX1 : X ≤ 1048576 := by
        rw [← hX]
        have := Int.mul_le_mul (show p1 ≤ 1024 by omega) (show (A : Int) ≤ 1024 by omega) (by omega) (by omega)
        omega
      rw [hX] at hx
      have hx2 := hx.symm
      have Hg := Lib.hid hg
      have HT := Lib.hid (TwF.start HBd.out)
      clear hx hg HBd
      go_wp2_with fail
      refine (opens_is o a _).mono ?_
      rintro e w4 ⟨rfl, hB4⟩
      have HT4 := Lib.hid (HT.out.below hB4)
      clear hB4 HT
      go_wp2_with fail
      refine (odds_ex N b o a _ Z0.out).mono ?_
      rintro e w5 ⟨rfl, hB5⟩
      have HT5 := Lib.hid ((HT4.out.below hB5).push p1 p2 34)
      clear hB5 HT4 Z0
      go_wp2_with fail
      refine (gcd_ex p1 p2 _ (by omega) (by omega) (by omega) (by omega) Hg.out).mono ?_
      rintro e w6 ⟨rfl, m, rfl⟩
      have hB6 := (HT5.out.drewN m).2
      clear HT5
      go_wp2_with fail
      refine (works_is _).mono ?_
      rintro e w7 ⟨rfl, hB7⟩
      have hBf := below_trans hB6 hB7
      clear hB6 hB7
      go_wp2_with fail
      go_ret
      exact ⟨rfl, hBf⟩

end Go.Proofs.Ythpllmefbhjmmaa
