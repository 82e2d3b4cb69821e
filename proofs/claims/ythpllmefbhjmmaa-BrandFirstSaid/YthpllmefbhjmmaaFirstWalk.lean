/-
  The walk of 'BrandFirst': it answers true, for any numbers that fit; all else stays as it was.
-/
import Derived.Test.YthpllmefbhjmmaaFirstMore
import Derived.Test.YthpllmefbhjmmaaTwoF
import Derived.Test.YthpllmefbhjmmaaGcdQ
import Derived.Test.YthpllmefbhjmmaaArgNum
import Derived.Deep.DeepCutAuto
namespace Go.Proofs.Ythpllmefbhjmmaa
open Go.ChangeShapes Go.WideShapes Go.ChangeAt Go.RowKit Plain
attribute [local go_sem] Oper.semAt_some

set_option maxRecDepth 100000 in
set_option maxHeartbeats 3200000 in
theorem law11 (x : Br) (w : World) (h0 : fits x.b0) (h1 : fits x.b1) (h2 : fits x.b2) (h3 : fits x.b3) :
    Calls Try.prog 11 #[brV x] w fun e w' => e = .returned (.bool true) ∧ Below w.heap.size w w' := by
  obtain ⟨n0, n1, n2, n3⟩ := x
  obtain ⟨a0, b0⟩ := h0
  obtain ⟨a1, b1⟩ := h1
  obtain ⟨a2, b2⟩ := h2
  obtain ⟨a3, b3⟩ := h3
  simp only at a0 b0 a1 b1 a2 b2 a3 b3
  have m0 := Int.emod_nonneg n0 (show (24 : Int) ≠ 0 by omega)
  have m1 := Int.emod_lt_of_pos n0 (show (0 : Int) < 24 by omega)
  have hB := below_alloc (w := w) (.cells #[.int .i64 n0, .int .i64 n1, .int .i64 n2, .int .i64 n3] 23)
  have hX : BrAt (w.alloc (.cells #[.int .i64 n0, .int .i64 n1, .int .i64 n2, .int .i64 n3] 23)) w.heap.size 0 ⟨n0, n1, n2, n3⟩ := by unfold BrAt; go_simp
  have hl : w.heap.size < (w.alloc (.cells #[.int .i64 n0, .int .i64 n1, .int .i64 n2, .int .i64 n3] 23)).heap.size := by simp
  go_enter Try.func11, Try.ntmps11
  go_wp2_with fail
  refine (mod_is n0 24 _ a0 b0 (by omega) (by omega)).mono ?_
  rintro e w1 ⟨rfl, rfl⟩
  obtain ⟨N, hN⟩ : ∃ N, 2 + n0 % 24 = N := ⟨_, rfl⟩
  have hN1 : 2 ≤ N := by omega
  have hN2 : N ≤ 25 := by omega
  obtain ⟨W, hW⟩ : ∃ W, w.alloc (.cells #[.int .i64 n0, .int .i64 n1, .int .i64 n2, .int .i64 n3] 23) = W := ⟨_, rfl⟩
  rw [hW] at hB hX hl ⊢
  clear hW
  obtain ⟨x0, x1, x2, x3⟩ := hX
  simp only at x0 x1 x2 x3
  go_wp2_with fail
  obtain ⟨b, hb⟩ : ∃ b, n1 % (N + 1) = b := ⟨_, rfl⟩
  have hb0 : 0 ≤ b := by rw [← hb]; exact Int.emod_nonneg n1 (by omega)
  have hb1 : b ≤ N := by have := Int.emod_lt_of_pos n1 (show 0 < N + 1 by omega); omega
  refine (mod_is n1 (N + 1) _ a1 b1 (by omega) (by omega)).mono ?_
  rintro e w1 ⟨rfl, rfl⟩
  rw [hb]
  clear hb hN m0 m1
  go_wp2_with fail
  have t0 := Int.emod_nonneg n2 (show N ≠ 0 by omega)
  have t1 := Int.emod_lt_of_pos n2 (show 0 < N by omega)
  refine (mod_is n2 N _ a2 b2 (by omega) (by omega)).mono ?_
  rintro e w1 ⟨rfl, rfl⟩
  obtain ⟨o, ho⟩ : ∃ o, 1 + n2 % N = o := ⟨_, rfl⟩
  have ho0 : 1 ≤ o := by omega
  have ho1 : o ≤ N := by omega
  go_wp2_with fail
  clear ho t0 t1
  obtain ⟨a, ha⟩ : ∃ a, n3 % (o + 1) = a := ⟨_, rfl⟩
  have ha0 : 0 ≤ a := by rw [← ha]; exact Int.emod_nonneg n3 (by omega)
  have ha1 : a ≤ o := by have := Int.emod_lt_of_pos n3 (show 0 < o + 1 by omega); omega
  refine (mod_is n3 (o + 1) _ a3 b3 (by omega) (by omega)).mono ?_
  rintro e w1 ⟨rfl, rfl⟩
  rw [ha]
  clear ha a0 b0 a1 b1 a2 b2 a3 b3 x0 x1 x2 x3
  have iN := inB_mk (n := N) (lo := 1) (hi := 40) ⟨by omega, by omega⟩
  have ib := inB_mk (n := b) (lo := 0) (hi := N) ⟨hb0, hb1⟩
  have io := inB_mk (n := o) (lo := 0) (hi := N) ⟨by omega, ho1⟩
  have ia := inB_mk (n := a) (lo := 0) (hi := o) ⟨ha0, ha1⟩
  have Z0 := Lib.hid (oddsR_good iN ib io ia)
  have hr0 := odds_bounds iN ib io ia
  have Hin := Lib.hid (inB_mk (n := fnd N b o 0 a / gcdI (fnd N b o 0 a) (cnt N o)) (lo := 0) (hi := cnt N o / gcdI (fnd N b o 0 a) (cnt N o)) ⟨hr0.1, red_le (fnd_nonneg N b o 0 a) (cnt_pos N o (by omega) ho1) (fnd_le_all hb0 hb1 ha0)⟩)
  obtain ⟨p1, hp1⟩ : ∃ p, fnd N b o 0 a / gcdI (fnd N b o 0 a) (cnt N o) = p := ⟨_, rfl⟩
  obtain ⟨p2, hp2⟩ : ∃ p, cnt N o / gcdI (fnd N b o 0 a) (cnt N o) = p := ⟨_, rfl⟩
  rw [hp1, hp2] at Z0 hr0 Hin
  have HP1 := Lib.hid hp1
  have HP2 := Lib.hid hp2
  have HT := Lib.hid (TwF.start hB)
  clear hp1 hp2 iN ib io ia hB
  go_wp2_with fail
  refine (opens_is o a _).mono ?_
  rintro e w4 ⟨rfl, hB4⟩
  have HT4 := Lib.hid (HT.out.below hB4)
  clear hB4 HT
  go_wp2_with fail
  refine (odds_ex N b o a _ Z0.out).mono ?_
  rintro e w5 ⟨rfl, hB5⟩
  have hT5 := HT4.out.below hB5
  have sw5 := hT5.2.size
  have HT5 := Lib.hid (hT5.push p1 p2 34)
  clear hB5 HT4 Z0 hT5
  go_wp2_with fail
  refine (in_is p1 0 p2 _ Hin.out).mono ?_
  rintro e w6 ⟨rfl, rfl⟩
  clear Hin
  have hT6 := (HT5.out.push 0 1 34).push 0 1 34
  simp only [World.size_alloc] at hT6
  have HT6 := Lib.hid hT6
  clear hT6 HT5
  obtain ⟨W6, hW6⟩ : ∃ W6, ((w5.alloc (.cells #[.int .i64 p1, .int .i64 p2] 34)).alloc (.cells #[.int .i64 0, .int .i64 1] 34)).alloc (.cells #[.int .i64 0, .int .i64 1] 34) = W6 := ⟨_, rfl⟩
  go_upto_region 10 with fail
  rw [hW6] at HT6
  clear hW6
  obtain ⟨qb, hqb⟩ : ∃ q, decide (0 < b ∧ 0 < a) = q := ⟨_, rfl⟩
  go_cut [73] (fun s73 wx => s73 = .bool qb ∧ wx = W6)
  case first => as_aux_lemma =>
    by_cases hb2 : 0 < b
    · by_cases ha2 : 0 < a
      · have hq : qb = true := by rw [← hqb]; simp; omega
        subst hq
        go_wp2_with fail
        go_meet
        case rel => exact ⟨rfl, rfl⟩
      · have hq : qb = false := by rw [← hqb]; simp; omega
        have hne : (o == a) = false := by simp; omega
        subst hq
        go_wp2_with fail
        go_meet
        case rel => exact ⟨rfl, rfl⟩
    · have hq : qb = false := by rw [← hqb]; simp; omega
      subst hq
      go_wp2_with fail
      go_meet
      case rel => exact ⟨rfl, rfl⟩
  case rest =>
    obtain ⟨rfl, rfl⟩ := hcut
    obtain ⟨f1, hf1⟩ : ∃ x, withF N b o a / gcdI (withF N b o a) (cnt (N - 1) (o - 1)) = x := ⟨_, rfl⟩
    obtain ⟨f2, hf2⟩ : ∃ x, cnt (N - 1) (o - 1) / gcdI (withF N b o a) (cnt (N - 1) (o - 1)) = x := ⟨_, rfl⟩
    obtain ⟨v1, hv1⟩ : ∃ x, withoutF N b o a / gcdI (withoutF N b o a) (cnt (N - 1) (o - 1)) = x := ⟨_, rfl⟩
    obtain ⟨v2, hv2⟩ : ∃ x, cnt (N - 1) (o - 1) / gcdI (withoutF N b o a) (cnt (N - 1) (o - 1)) = x := ⟨_, rfl⟩
    have HF := Lib.hid (And.intro hf1 hf2)
    have HV := Lib.hid (And.intro hv1 hv2)
    have iN1 := inB_mk (n := N - 1) (lo := 1) (hi := 40) ⟨by omega, by omega⟩
    have io1 := inB_mk (n := o - 1) (lo := 0) (hi := N - 1) ⟨by omega, by omega⟩
    have hC1 := cnt_pos (N - 1) (o - 1) (by omega) (by omega)
    clear hf1 hf2 hv1 hv2
    go_upto_if 73 with fail
    go_cut [] (fun wx => TwF w [(w5.heap.size + 1 + 1, 0, 1), (w5.heap.size + 1, f1, f2), (w5.heap.size, p1, p2)] wx)
    case first => as_aux_lemma =>
      obtain ⟨hf1, hf2⟩ := HF.out
      unfold withF at hf1 hf2
      obtain ⟨⟨⟨c0, c1⟩, c2, c3⟩, lc⟩ := HT6.out.get (B := w5.heap.size + 1) (p := 0) (q := 1) (by simp)
      cases qb with
      | true =>
        have hq : 0 < b ∧ 0 < a := of_decide_eq_true hqb
        rw [if_pos hq] at hf1 hf2
        have ib1 := inB_mk (n := b - 1) (lo := 0) (hi := N - 1) ⟨by omega, by omega⟩
        have ia1 := inB_mk (n := a - 1) (lo := 0) (hi := o - 1) ⟨by omega, by omega⟩
        have hz := oddsR_good iN1 ib1 io1 ia1
        rw [hf1, hf2] at hz
        have Z1 := Lib.hid hz
        have hm : min (o - 1) (a - 1) = a - 1 := by omega
        clear hz hf1 hf2 hqb HF ib1 ia1 iN1 io1
        go_wp2_with fail
        refine (opens_is (o - 1) (a - 1) _).mono ?_
        rintro e w7 ⟨rfl, hB7⟩
        go_wp2_with fail
        refine (odds_ex (N - 1) (b - 1) (o - 1) (a - 1) _ Z1.out).mono ?_
        rintro e w8 ⟨rfl, hB8⟩
        have HT9 := Lib.hid ((HT6.out.below (below_trans hB7 hB8)).push f1 f2 34)
        clear hB7 hB8 c0 c1 c2 c3 lc
        obtain ⟨W9, hW9⟩ : ∃ W, w8.alloc (.cells #[.int .i64 f1, .int .i64 f2] 34) = W := ⟨_, rfl⟩
        go_upto_region 14 with fail
        rw [hW9] at HT9
        clear hW9
        obtain ⟨⟨⟨c0, c1⟩, c2, c3⟩, lc⟩ := HT9.out.get (B := w5.heap.size + 1) (p := 0) (q := 1) (by simp)
        obtain ⟨⟨⟨c4, c5⟩, _⟩, lc2⟩ := HT9.out.get (B := w8.heap.size) (p := f1) (q := f2) (by simp)
        go_wp2_with fail
        go_meet
        case rel => exact HT9.out.tail.set (l1 := [(w5.heap.size + 1 + 1, 0, 1)]) (l2 := [(w5.heap.size, p1, p2)]) (by simp) (by simp) (by omega) f1 f2
      | false =>
        have hq : ¬ (0 < b ∧ 0 < a) := of_decide_eq_false hqb
        rw [if_neg hq, gcdI_nil _ hC1] at hf1 hf2
        rw [Int.zero_ediv] at hf1
        rw [Int.ediv_self (by omega)] at hf2
        subst hf1
        subst hf2
        clear hqb HF iN1 io1
        go_wp2_with fail
        go_meet
        case rel => exact HT6.out
    case rest =>
      have HT10 := Lib.hid hcut
      obtain ⟨qv, hqv⟩ : ∃ q, decide (b < N) = q := ⟨_, rfl⟩
      clear hcut HT6
      go_upto_if 95 with fail
      go_cut [] (fun wx => TwF w [(w5.heap.size + 1 + 1, v1, v2), (w5.heap.size + 1, f1, f2), (w5.heap.size, p1, p2)] wx)
      case first => as_aux_lemma =>
        obtain ⟨hv1, hv2⟩ := HV.out
        unfold withoutF at hv1 hv2
        cases qv with
        | true =>
          have hbn : b < N := of_decide_eq_true hqv
          rw [if_pos hbn] at hv1 hv2
          have ib1 := inB_mk (n := b) (lo := 0) (hi := N - 1) ⟨by omega, by omega⟩
          have ia1 := inB_mk (n := min (o - 1) a) (lo := 0) (hi := o - 1) ⟨by omega, by omega⟩
          have hz := oddsR_good iN1 ib1 io1 ia1
          rw [hv1, hv2] at hz
          have Z1 := Lib.hid hz
          clear hz hv1 hv2 hqv HF HV ib1 ia1 iN1 io1
          go_wp2_with fail
          refine (opens_is (o - 1) (min (o - 1) a) _).mono ?_
          rintro e w7 ⟨rfl, hB7⟩
          go_wp2_with fail
          refine (odds_ex (N - 1) b (o - 1) (min (o - 1) a) _ Z1.out).mono ?_
          rintro e w8 ⟨rfl, hB8⟩
          have HT11 := Lib.hid ((HT10.out.below (below_trans hB7 hB8)).push v1 v2 34)
          clear hB7 hB8
          obtain ⟨W9, hW9⟩ : ∃ W, w8.alloc (.cells #[.int .i64 v1, .int .i64 v2] 34) = W := ⟨_, rfl⟩
          go_upto_region 19 with fail
          rw [hW9] at HT11
          clear hW9
          obtain ⟨⟨⟨c0, c1⟩, c2, c3⟩, lc⟩ := HT11.out.get (B := w5.heap.size + 1 + 1) (p := 0) (q := 1) (by simp)
          obtain ⟨⟨⟨c4, c5⟩, _⟩, lc2⟩ := HT11.out.get (B := w8.heap.size) (p := v1) (q := v2) (by simp)
          go_wp2_with fail
          go_meet
          case rel => exact HT11.out.tail.set (l1 := []) (l2 := [(w5.heap.size + 1, f1, f2), (w5.heap.size, p1, p2)]) (by simp) (by simp; omega) (by omega) v1 v2
        | false =>
          have hbn : ¬ b < N := of_decide_eq_false hqv
          rw [if_neg hbn, gcdI_nil _ hC1] at hv1 hv2
          rw [Int.zero_ediv] at hv1
          rw [Int.ediv_self (by omega)] at hv2
          subst hv1
          subst hv2
          clear hqv HF HV iN1 io1
          go_wp2_with fail
          go_meet
          case rel => exact HT10.out
      case rest =>
        have HT12 := Lib.hid hcut
        obtain ⟨hf1, hf2⟩ := HF.out
        obtain ⟨hv1, hv2⟩ := HV.out
        have bf := red_bounds (withF_nonneg N b o a) hC1 (withF_le hb1)
        have bv := red_bounds (withoutF_nonneg N b o a) hC1 (withoutF_le hb0 ho0 ha0)
        have xf := red_cross (withF_nonneg N b o a) hC1
        have xv := red_cross (withoutF_nonneg N b o a) hC1
        rw [hf1, hf2] at bf xf
        rw [hv1, hv2] at bv xv
        have hC1b := cnt_le (N - 1) (o - 1) (by omega)
        obtain ⟨bf1, bf2, bf3, bf4⟩ := bf
        obtain ⟨bv1, bv2, bv3, bv4⟩ := bv
        have HL := Lib.hid (first_is hb0 hb1 ho0 ho1 ha0 ha1 xf xv bf1 bf2 bf3 bv1 bv2 bv3)
        have sb1 : f2 ≤ 1099511627776 := by omega
        have sb2 : v2 ≤ 1099511627776 := by omega
        clear xf xv hf1 hf2 hv1 hv2 hC1 hC1b bf4 bv4 hcut HT10 HF HV iN1 io1 hqv hqb
        obtain ⟨⟨⟨c0, c1⟩, c2, c3⟩, lc0⟩ := HT12.out.get (B := w5.heap.size + 1 + 1) (p := v1) (q := v2) (by simp)
        obtain ⟨⟨⟨c4, c5⟩, c6, c7⟩, lc1⟩ := HT12.out.get (B := w5.heap.size + 1) (p := f1) (q := f2) (by simp)
        obtain ⟨⟨⟨c8, c9⟩, _⟩, lc2⟩ := HT12.out.get (B := w5.heap.size) (p := p1) (q := p2) (by simp)
        clear c2 c3 c6 c7
        obtain ⟨qg, hqg⟩ : ∃ q, decide (6000000 < f2 ∨ 6000000 < v2 ∨ 6000000 < p2) = q := ⟨_, rfl⟩
        have hrp2 : 1 ≤ p2 := hr0.2.2.1
        go_upto_region 20 with fail
        go_cut [135] (fun s135 wx => s135 = .bool qg ∧ wx = wc)
        case first => as_aux_lemma =>
          by_cases k1 : 6000000 < f2
          · have hq : qg = true := by rw [← hqg]; simp; omega
            subst hq
            clear hqg
            go_wp2_with fail
            go_meet
            case rel => exact ⟨rfl, rfl⟩
          · by_cases k2 : 6000000 < v2
            · have hq : qg = true := by rw [← hqg]; simp; omega
              subst hq
              clear hqg
              go_wp2_with fail
              go_meet
              case rel => exact ⟨rfl, rfl⟩
            · by_cases k3 : 6000000 < p2
              · have hq : qg = true := by rw [← hqg]; simp; omega
                subst hq
                clear hqg
                go_wp2_with fail
                go_meet
                case rel => exact ⟨rfl, rfl⟩
              · have hq : qg = false := by rw [← hqg]; simp; omega
                subst hq
                clear hqg
                go_wp2_with fail
                go_meet
                case rel => exact ⟨by simp; omega, rfl⟩
        case rest =>
          obtain ⟨rfl, rfl⟩ := hcut
          cases qg with
          | true =>
            clear hqg
            go_wp2_with fail
            refine (works_is _).mono ?_
            rintro e wb ⟨rfl, hBb⟩
            have hBf := below_trans HT12.out.2 hBb
            clear hBb
            go_wp2_with fail
            go_ret
            exact ⟨rfl, hBf⟩
          | false =>
            have hq := of_decide_eq_false hqg
            clear hqg
            have k1 : f2 ≤ 6000000 := by omega
            have k2 : v2 ≤ 6000000 := by omega
            clear hq
            obtain ⟨by', x, y, e1, e2, e3, l1, l2, l3, l4, l5, l6, l7, l8, l9, r1, r2⟩ := HL.out
            rw [HP1.out] at r1
            rw [HP2.out] at r2
            obtain ⟨G, hG⟩ : ∃ G, gcdI f2 v2 = G := ⟨_, rfl⟩
            have hGp := gcdI_pos f2 v2 (by omega) (by omega)
            rw [hG] at e1 hGp
            have HG := Lib.hid hG
            have hGl : G ≤ f2 := by
              rw [← hG]; exact Int.le_of_dvd (by omega) (gcdI_dvd_left f2 v2 (by omega))
            clear hG
            have g1 : (G == 0) = false := by simp; omega
            have g2 : ¬ G = 0 := by omega
            have g3 : f2.tdiv G = f2 / G := Int.tdiv_eq_ediv_of_nonneg (by omega)
            obtain ⟨Q, hQ⟩ : ∃ Q, f2 / G = Q := ⟨_, rfl⟩
            have Q0 : 0 ≤ Q := by rw [← hQ]; exact Int.ediv_nonneg (by omega) (by omega)
            have Q1 : Q ≤ f2 := by rw [← hQ]; exact Int.ediv_le_self _ (by omega)
            rw [hQ] at g3 e1
            clear hQ
            have byb : by' ≤ 36000000000000 := by
              rw [← e1]
              have := Int.mul_le_mul (show Q ≤ 6000000 by omega) k2 (by omega) (by omega)
              omega
            have g4 : IntKind.i64.wrap Q = Q := IntWalk.i64_in _ (by omega)
            have g5 : IntKind.i64.wrap (Q * v2) = by' := by rw [e1]; exact IntWalk.i64_in _ (by omega)
            clear HL
            have E := Lib.hid (And.intro e1 (And.intro e2 (And.intro e3 (And.intro r1 r2))))
            have LL := Lib.hid (And.intro l1 (And.intro l2 (And.intro l3 (And.intro l4 (And.intro l5 (And.intro l6 (And.intro l7 (And.intro l8 l9))))))))
            clear e1 e2 e3 r1 r2 l1 l2 l3 l4 l5 l6 l7 l8 l9 byb
            go_wp2_with fail
            go_quiet ((go_at_call 45; refine Calls.quiet_of (gcd_ex f2 v2 _ (by omega) (by omega) (by omega) (by omega) HG.out)))
            obtain ⟨W7, hW7⟩ : ∃ W, wc.drewN nq = W := ⟨_, rfl⟩
            have HT13 := HT12.out.drewN nq
            rw [hW7] at HT13 ⊢
            have HT14 := Lib.hid HT13
            clear hW7 HT13 HT12 c0 c1 c4 c5 c8 c9 lc0 lc1 lc2 g1 g2 g3 g4 g5 Q0 Q1 hGp hGl HG
            obtain ⟨qb, hqb⟩ : ∃ q, decide (1000000000 < by') = q := ⟨_, rfl⟩
            cases qb with
            | true =>
              have hby := of_decide_eq_true hqb
              clear hqb
              go_wp2_with fail
              refine (works_is _).mono ?_
              rintro e wb ⟨rfl, hBb⟩
              have hBf := below_trans HT14.out.2 hBb
              clear hBb
              go_wp2_with fail
              go_ret
              exact ⟨rfl, hBf⟩
            | false =>
              have hby := of_decide_eq_false hqb
              clear hqb
              obtain ⟨e1, e2, e3, r1, r2⟩ := E.out
              obtain ⟨l1, l2, l3, l4, l5, l6, l7, l8, l9⟩ := LL.out
              obtain ⟨A1, hA1⟩ : ∃ A, b * f1 = A := ⟨_, rfl⟩
              obtain ⟨A2, hA2⟩ : ∃ A, A1 * x = A := ⟨_, rfl⟩
              obtain ⟨B1, hB1⟩ : ∃ A, (N - b) * v1 = A := ⟨_, rfl⟩
              obtain ⟨B2, hB2⟩ : ∃ A, B1 * y = A := ⟨_, rfl⟩
              obtain ⟨NB, hNB⟩ : ∃ A, N * by' = A := ⟨_, rfl⟩
              rw [hA1, hA2, hB1, hB2, hNB] at r1 r2
              have u1 : 0 ≤ A1 := by rw [← hA1]; exact Int.mul_nonneg hb0 bf1
              have u2 : A1 ≤ 150000000 := by rw [← hA1]; have := Int.mul_le_mul (show b ≤ 25 by omega) (show f1 ≤ 6000000 by omega) bf1 (by omega); omega
              have u3 : 0 ≤ B1 := by rw [← hB1]; exact Int.mul_nonneg (by omega) bv1
              have u4 : B1 ≤ 150000000 := by rw [← hB1]; have := Int.mul_le_mul (show N - b ≤ 25 by omega) (show v1 ≤ 6000000 by omega) bv1 (by omega); omega
              have u5 : 0 ≤ A2 := by rw [← hA2, ← hA1, Int.mul_assoc]; exact Int.mul_nonneg hb0 l8
              have u6 : A2 ≤ 25000000000 := by rw [← hA2, ← hA1, Int.mul_assoc]; have := Int.mul_le_mul (show b ≤ 25 by omega) (show f1 * x ≤ 1000000000 by omega) l8 (by omega); omega
              have u7 : 0 ≤ B2 := by rw [← hB2, ← hB1, Int.mul_assoc]; exact Int.mul_nonneg (by omega) l9
              have u8 : B2 ≤ 25000000000 := by rw [← hB2, ← hB1, Int.mul_assoc]; have := Int.mul_le_mul (show N - b ≤ 25 by omega) (show v1 * y ≤ 1000000000 by omega) l9 (by omega); omega
              have u9 : 0 < NB := by rw [← hNB]; exact Int.mul_pos (by omega) l1
              have u10 : NB ≤ 25000000000 := by rw [← hNB]; have := Int.mul_le_mul (show N ≤ 25 by omega) (show by' ≤ 1000000000 by omega) (by omega) (by omega); omega
              have q1 : IntKind.i64.wrap (b * f1) = A1 := by rw [hA1]; exact IntWalk.i64_in _ (by omega)
              have q2 : by'.tdiv f2 = x := by rw [Int.tdiv_eq_ediv_of_nonneg (by omega)]; exact e2
              have q3 : IntKind.i64.wrap x = x := IntWalk.i64_in _ (by omega)
              have q4 : IntKind.i64.wrap (A1 * x) = A2 := by rw [hA2]; exact IntWalk.i64_in _ (by omega)
              have q5 : IntKind.i64.wrap (N - b) = N - b := IntWalk.i64_in _ (by omega)
              have q6 : IntKind.i64.wrap ((N - b) * v1) = B1 := by rw [hB1]; exact IntWalk.i64_in _ (by omega)
              have q7 : by'.tdiv v2 = y := by rw [Int.tdiv_eq_ediv_of_nonneg (by omega)]; exact e3
              have q8 : IntKind.i64.wrap y = y := IntWalk.i64_in _ (by omega)
              have q9 : IntKind.i64.wrap (B1 * y) = B2 := by rw [hB2]; exact IntWalk.i64_in _ (by omega)
              have q10 : IntKind.i64.wrap (A2 + B2) = A2 + B2 := IntWalk.i64_in _ (by omega)
              have q11 : (f2 == 0) = false := by simp; omega
              have q12 : ¬ f2 = 0 := by omega
              have q13 : (v2 == 0) = false := by simp; omega
              have q14 : ¬ v2 = 0 := by omega
              have HNB := Lib.hid hNB
              clear e1 e2 e3 hA1 hA2 hB1 hB2 hNB l4 l5 l6 l7 l8 l9 E LL
              obtain ⟨GG, hGG⟩ : ∃ g, gcdI (A2 + B2) NB = g := ⟨_, rfl⟩
              have hGp := gcdI_pos (A2 + B2) NB (by omega) u9
              rw [hGG] at r1 r2 hGp
              have HGG := Lib.hid hGG
              have R1 := Lib.hid r1
              have R2 := Lib.hid r2
              clear r1 r2 hGG
              obtain ⟨⟨⟨c0, c1⟩, _⟩, lc0⟩ := HT14.out.get (B := w5.heap.size + 1 + 1) (p := v1) (q := v2) (by simp)
              obtain ⟨⟨⟨c4, c5⟩, _⟩, lc1⟩ := HT14.out.get (B := w5.heap.size + 1) (p := f1) (q := f2) (by simp)
              go_wp2_with fail
              go_quiet (fail)
              obtain ⟨W8, hW8⟩ : ∃ W, W7.drewN nq = W := ⟨_, rfl⟩
              have HT15 := HT14.out.drewN nq
              rw [hW8] at HT15 ⊢
              have HT16 := Lib.hid HT15
              clear hW8 HT15 HT14 c0 c1 c4 c5 lc0 lc1 q1 q2 q3 q4 q5 q6 q7 q8 q9 q10 q11 q12 q13 q14
              have q15 : wrap64 (N * by') = NB := by rw [HNB.out]; exact IntWalk.wrap64_in _ ⟨by omega, by omega⟩
              go_wp2_with fail
              refine (gcd_ex (A2 + B2) NB _ (by omega) (by omega) (by omega) (by omega) HGG.out).mono ?_
              rintro e wg ⟨rfl, mg, rfl⟩
              have HT17 := HT16.out.drewN mg
              obtain ⟨W9, hW9⟩ : ∃ W, W8.drewN mg = W := ⟨_, rfl⟩
              rw [hW9] at HT17 ⊢
              have HT18 := Lib.hid HT17
              clear hW9 HT17 HT16 q15
              have q1 : (A2 + B2).tdiv GG = p1 := by rw [Int.tdiv_eq_ediv_of_nonneg (by omega)]; exact R1.out
              have q2 : NB.tdiv GG = p2 := by rw [Int.tdiv_eq_ediv_of_nonneg (by omega)]; exact R2.out
              have q3 : IntKind.i64.wrap p1 = p1 := IntWalk.i64_in _ (by omega)
              have q4 : IntKind.i64.wrap p2 = p2 := IntWalk.i64_in _ (by omega)
              have q5 : IntKind.i64.wrap (N * by') = NB := by rw [HNB.out]; exact IntWalk.i64_in _ (by omega)
              have q6 : (GG == 0) = false := by simp; omega
              have q7 : ¬ GG = 0 := by omega
              obtain ⟨⟨⟨c0, c1⟩, _⟩, lc⟩ := HT18.out.get (B := w5.heap.size) (p := p1) (q := p2) (by simp)
              clear R1 R2 HGG HNB HP1 HP2 hr0
              go_wp2_with fail
              go_region_held3 (fun w' => w'.cell? ⟨w5.heap.size, 0, none⟩ = some (.int .i64 p1) ∧ w'.cell? ⟨w5.heap.size, 1, none⟩ = some (.int .i64 p2) ∧ Below W9.heap.size W9 w')
                (first
                  | exact ⟨c0, c1, (Below.refl _ _).drew⟩
                  | exact ⟨(World.cell?_of_block (a := ⟨w5.heap.size, 0, none⟩) (hBn.block _ lc)).trans c0, (World.cell?_of_block (a := ⟨w5.heap.size, 1, none⟩) (hBn.block _ lc)).trans c1, below_trans (Below.refl _ _).drew hBn⟩
                  | exact ⟨(World.cell?_of_block (a := ⟨w5.heap.size, 0, none⟩) ((below_trans hBn hBm).block _ lc)).trans c0, (World.cell?_of_block (a := ⟨w5.heap.size, 1, none⟩) ((below_trans hBn hBm).block _ lc)).trans c1, below_trans (Below.refl _ _).drew (below_trans hBn hBm)⟩)
                (first
                  | (go_at_call 46; (with_reducible refine (of_is p1 p2 _).mono ?_); rintro e wn ⟨rfl, hBn⟩)
                  | (go_at_call 21; (with_reducible refine (works_is _).mono ?_); rintro e wm ⟨rfl, hBm⟩))
              have hBf := below_trans HT18.out.2 (below_trans (Below.refl _ _).drew (below_trans hBn hBm))
              go_wp2_with fail
              go_ret
              exact ⟨rfl, hBf⟩

end Go.Proofs.Ythpllmefbhjmmaa
