/-
  'BrandDoubt' returns true, for any doubt and numbers: no condition.
-/
import Derived.Test.YthpllmefbhjmmaaDoubtMore
import Derived.Test.YthpllmefbhjmmaaArgNum
import Derived.Deep.DeepCutAuto
namespace Go.Proofs.Ythpllmefbhjmmaa
open Go.ChangeShapes Go.WideShapes Go.ChangeAt Go.RowKit Plain
attribute [local go_sem] Oper.semAt_some

theorem bcell {W w1 : World} (hb : Below W.heap.size W w1) : (∀ b o, b < W.heap.size → w1.cell? ⟨b, o, none⟩ = W.cell? ⟨b, o, none⟩) ∧ (∀ b o, b < W.heap.size → w1.frozen? ⟨b, o, none⟩ = W.frozen? ⟨b, o, none⟩) :=
  ⟨fun b o h => hb.cell (p := ⟨b, o, none⟩) h, fun b o h => hb.frozen (p := ⟨b, o, none⟩) h⟩

theorem Twos.set {w : World} {l : List (Nat × Int × Int)} {w' : World} {B : Nat} {p q : Int} (h : Twos w ((B, p, q) :: l) w') (hne : ∀ y ∈ l, y.1 ≠ B) (hB : w.heap.size ≤ B) (p' q' : Int) :
    Twos w ((B, p', q') :: l) ((w'.setCell ⟨B, 0, none⟩ (.int .i64 p')).setCell ⟨B, 1, none⟩ (.int .i64 q')) := by
  refine ⟨fun y hy => ?_, (h.2.setCell hB _).setCell hB _⟩
  rcases List.mem_cons.1 hy with rfl | hy
  · obtain ⟨h1, h2⟩ := h.1 (B, p, q) (by simp)
    unfold TwoAt
    go_simp
  · obtain ⟨h1, h2⟩ := h.1 y (List.mem_cons_of_mem _ hy)
    have hn := hne y hy
    have k : ∀ i, ((w'.setCell ⟨B, 0, none⟩ (.int .i64 p')).setCell ⟨B, 1, none⟩ (.int .i64 q')).cell? ⟨y.1, i, none⟩ = w'.cell? ⟨y.1, i, none⟩ := fun i =>
      World.cell?_of_block (a := ⟨y.1, i, none⟩) ((Below.heap_setCell _ _ _ _ hn).trans (Below.heap_setCell _ _ _ _ hn))
    exact ⟨(k 0).trans h1, (k 1).trans h2⟩

set_option maxRecDepth 100000 in
set_option maxHeartbeats 3200000 in
theorem law15 (dof din : Int) (x : Br) (w : World) (h0 : fits x.b0) (h1 : fits x.b1) (h2 : fits x.b2) (h3 : fits x.b3) :
    Calls Try.prog 15 #[planV dof din, brV x] w fun e w' => e = .returned (.bool true) ∧ Below w.heap.size w w' := by
  obtain ⟨n0, n1, n2, n3⟩ := x
  obtain ⟨a0, b0⟩ := h0
  obtain ⟨a1, b1⟩ := h1
  obtain ⟨a2, b2⟩ := h2
  obtain ⟨a3, b3⟩ := h3
  simp only at a0 b0 a1 b1 a2 b2 a3 b3
  have m0 := Int.emod_nonneg n0 (show (40 : Int) ≠ 0 by omega)
  have m1 := Int.emod_lt_of_pos n0 (show (0 : Int) < 40 by omega)
  have hB := (below_alloc (w := w) (.cells #[.int .i64 dof, .int .i64 din] 34)).alloc (by simp) (.cells #[.int .i64 n0, .int .i64 n1, .int .i64 n2, .int .i64 n3] 23)
  have hD : TwoAt ((w.alloc (.cells #[.int .i64 dof, .int .i64 din] 34)).alloc (.cells #[.int .i64 n0, .int .i64 n1, .int .i64 n2, .int .i64 n3] 23)) w.heap.size (.int .i64 dof) (.int .i64 din) := by unfold TwoAt; go_simp
  have key : ∀ W : World, BrAt (W.alloc (.cells #[.int .i64 n0, .int .i64 n1, .int .i64 n2, .int .i64 n3] 23)) W.heap.size 0 ⟨n0, n1, n2, n3⟩ := fun W => by unfold BrAt; go_simp
  have hX := key (w.alloc (.cells #[.int .i64 dof, .int .i64 din] 34))
  rw [World.size_alloc] at hX
  have hl : w.heap.size + 1 < ((w.alloc (.cells #[.int .i64 dof, .int .i64 din] 34)).alloc (.cells #[.int .i64 n0, .int .i64 n1, .int .i64 n2, .int .i64 n3] 23)).heap.size := by simp
  clear key
  go_enter Try.func15, Try.ntmps15
  go_wp2_with fail
  refine (mod_is n0 40 _ a0 b0 (by omega) (by omega)).mono ?_
  rintro e w1 ⟨rfl, rfl⟩
  obtain ⟨N, hN⟩ : ∃ N, 1 + n0 % 40 = N := ⟨_, rfl⟩
  have hN1 : 1 ≤ N := by omega
  have hN2 : N ≤ 40 := by omega
  obtain ⟨W, hW⟩ : ∃ W, (w.alloc (.cells #[.int .i64 dof, .int .i64 din] 34)).alloc (.cells #[.int .i64 n0, .int .i64 n1, .int .i64 n2, .int .i64 n3] 23) = W := ⟨_, rfl⟩
  rw [hW] at hB hX hl hD ⊢
  clear hW
  obtain ⟨x0, x1, x2, x3⟩ := hX
  obtain ⟨d0, d1⟩ := hD
  simp only at x0 x1 x2 x3
  go_wp2_with fail
  obtain ⟨o, ho⟩ : ∃ o, n1 % (N + 1) = o := ⟨_, rfl⟩
  have ho0 : 0 ≤ o := by rw [← ho]; exact Int.emod_nonneg n1 (by omega)
  have ho1 : o ≤ N := by have := Int.emod_lt_of_pos n1 (show 0 < N + 1 by omega); omega
  refine (mod_is n1 (N + 1) _ a1 b1 (by omega) (by omega)).mono ?_
  rintro e w1 ⟨rfl, rfl⟩
  rw [ho]
  clear ho hN m0 m1
  go_wp2_with fail
  obtain ⟨f, hf⟩ : ∃ f, n2 % (o + 1) = f := ⟨_, rfl⟩
  have hf0 : 0 ≤ f := by rw [← hf]; exact Int.emod_nonneg n2 (by omega)
  have hf1 : f ≤ o := by have := Int.emod_lt_of_pos n2 (show 0 < o + 1 by omega); omega
  refine (mod_is n2 (o + 1) _ a2 b2 (by omega) (by omega)).mono ?_
  rintro e w1 ⟨rfl, rfl⟩
  rw [hf]
  clear hf
  obtain ⟨b, hb⟩ : ∃ b, n3 % (N + 1) = b := ⟨_, rfl⟩
  have hb0 : 0 ≤ b := by rw [← hb]; exact Int.emod_nonneg n3 (by omega)
  have hb1 : b ≤ N := by have := Int.emod_lt_of_pos n3 (show 0 < N + 1 by omega); omega
  have Hb := Lib.hid hb
  clear hb a0 b0 a1 b1 a2 b2
  have iN := inB_mk (n := N) (lo := 1) (hi := 40) ⟨hN1, hN2⟩
  have io := inB_mk (n := o) (lo := 0) (hi := N) ⟨ho0, ho1⟩
  have jf := inB_mk (n := f) (lo := 0) (hi := o) ⟨hf0, hf1⟩
  have ib := inB_mk (n := b) (lo := 0) (hi := N) ⟨hb0, hb1⟩
  rcases belowR_cases (dof := dof) (din := din) iN io jf with ⟨hbad, hz⟩ | ⟨hgood, zx, zy, ze, hz, hze, hcan⟩
  · have Hz := Lib.hid hz
    clear hz hbad iN io jf ib
    go_wp2_with fail
    refine (below_ex N o f dof din _ Hz.out).mono ?_
    rintro e w2 ⟨rfl, hB2⟩
    have hB3 := below_more (below_trans hB hB2) (.cells #[.int .i64 0, .int .i64 0] 47)
    clear hB2 hB
    go_wp2_with fail
    refine (works_is _).mono ?_
    rintro e w3 ⟨rfl, hB4⟩
    have hB5 := below_trans hB3 hB4
    clear hB3 hB4
    go_wp2_with fail
    go_ret
    exact ⟨rfl, hB5⟩
  · have Hz := Lib.hid hz
    obtain ⟨g7, g8, g9, g10⟩ := oddsB_true hgood
    have hcb := hcan b hb0 hb1
    rw [can_is ib io jf] at hcb
    have hmb := many_bounds iN ib io jf
    have Z1 := Lib.hid (oddsR_good iN ib io jf)
    have hr1 := odds_bounds iN ib io jf
    generalize fnd N b o 0 f / gcdI (fnd N b o 0 f) (cnt N o) = p1 at *
    generalize cnt N o / gcdI (fnd N b o 0 f) (cnt N o) = p2 at *
    have Hfull := Lib.hid (belowR_full iN (inB_mk (n := f) (lo := 0) (hi := N) ⟨hf0, by omega⟩) hgood)
    clear hz hcan hgood
    go_wp2_with fail
    refine (below_ex N o f dof din _ Hz.out).mono ?_
    rintro e w2 ⟨rfl, hB2⟩
    have hT : Twos w [(w.heap.size, dof, din)] w2 := by
      refine ⟨fun y hy => ?_, below_trans hB hB2⟩
      obtain rfl : y = (w.heap.size, dof, din) := by simpa using hy
      exact TwoAt.below ⟨d0, d1⟩ hB2 (by omega)
    have HT := Lib.hid (hT.push zx zy 47)
    have hX3 : (w2.alloc (.cells #[.int .i64 zx, .int .i64 zy] 47)).cell? ⟨w.heap.size + 1, 3, none⟩ = some (.int .i64 n3) :=
      (World.cell?_of_block (a := ⟨w.heap.size + 1, 3, none⟩) ((below_trans hB2 (below_alloc _)).block _ hl)).trans x3
    have hl2 := hB2.size
    clear hB2 hB hT x0 x1 x2 x3 d0 d1
    obtain ⟨W2, hW2⟩ : ∃ W2, w2.alloc (.cells #[.int .i64 zx, .int .i64 zy] 47) = W2 := ⟨_, rfl⟩
    go_upto_region 5 with fail
    rw [hW2] at HT hX3
    clear hW2
    have hd := (HT.out.get (B := w.heap.size) (p := dof) (q := din) (by simp))
    obtain ⟨⟨d0, d1⟩, hd2⟩ := hd
    go_cut [52] (fun s52 wx => s52 = .bool false ∧ wx = W2)
    case first =>
      rcases hze with ⟨rfl, _, _, _⟩ | ⟨rfl, rfl, rfl⟩
      · go_wp2_with (go_at_call 34; refine (in_is din 1 1000 _ (inB_mk ⟨by omega, by omega⟩)).mono ?_; rintro e w' ⟨rfl, rfl⟩)
        go_meet
        case rel => exact ⟨rfl, rfl⟩
      · go_wp2_with (go_at_call 34; refine (in_is din 1 1000 _ (inB_mk ⟨by omega, by omega⟩)).mono ?_; rintro e w' ⟨rfl, rfl⟩)
        go_meet
        case rel => exact ⟨rfl, rfl⟩
    case rest =>
      obtain ⟨rfl, rfl⟩ := hcut
      go_wp2_with fail
      refine (mod_is n3 (N + 1) _ a3 b3 (by omega) (by omega)).mono ?_
      rintro e w3 ⟨rfl, rfl⟩
      rw [Hb.out]
      clear hX3 Hb a3 b3
      go_wp2_with fail
      refine (opens_is o f _).mono ?_
      rintro e w4 ⟨rfl, hB4⟩
      have HT4 := Lib.hid (HT.out.below hB4)
      clear hB4 HT d0 d1 hd2
      go_wp2_with fail
      refine (odds_ex N b o f _ Z1.out).mono ?_
      rintro e w5 ⟨rfl, hB5⟩
      have hT5 := HT4.out.below hB5
      have s25 := (hT5.get (B := w2.heap.size) (p := zx) (q := zy) (by simp)).2
      have HT5 := Lib.hid (hT5.push p1 p2 34)
      clear hB5 HT4 Z1 hT5
      go_wp2_with fail
      refine (of_is 1 1 _).mono ?_
      rintro e w6 ⟨rfl, hB6⟩
      have hT6 := HT5.out.below hB6
      have s56 := (hT6.get (B := w5.heap.size) (p := p1) (q := p2) (by simp)).2
      have s26 := (hT6.get (B := w2.heap.size) (p := zx) (q := zy) (by simp)).2
      have s06 := (hT6.get (B := w.heap.size) (p := dof) (q := din) (by simp)).2
      have HT6 := Lib.hid (hT6.push 1 1 34)
      have F0 : (w6.alloc (.cells #[.int .i64 1, .int .i64 1] 34)).frozen? ⟨w6.heap.size, 0, none⟩ = false := by go_simp
      have F1 : (w6.alloc (.cells #[.int .i64 1, .int .i64 1] 34)).frozen? ⟨w6.heap.size, 1, none⟩ = false := by go_simp
      clear hB6 HT5 hT6
      obtain ⟨W6, hW6⟩ : ∃ W6, w6.alloc (.cells #[.int .i64 1, .int .i64 1] 34) = W6 := ⟨_, rfl⟩
      go_upto_if 79 with fail
      rw [hW6] at HT6 F0 F1
      clear hW6
      obtain ⟨M1, hM1⟩ : ∃ M, many1 N b o f = M := ⟨_, rfl⟩
      obtain ⟨M2, hM2⟩ : ∃ M, many2 N b o f = M := ⟨_, rfl⟩
      rw [hM1, hM2] at hmb hcb
      have HM1 := Lib.hid hM1
      have HM2 := Lib.hid hM2
      clear hM1 hM2
      go_cut [] (fun wx => Twos w [(w6.heap.size, M1, M2), (w5.heap.size, p1, p2), (w2.heap.size, zx, zy), (w.heap.size, dof, din)] wx)
      case first =>
        by_cases hf : 0 < f
        · have hM1 := HM1.out
          have hM2 := HM2.out
          unfold many1 at hM1
          unfold many2 at hM2
          rw [if_pos hf] at hM1 hM2
          have jf1 := inB_mk (n := f - 1) (lo := 0) (hi := o) ⟨by omega, by omega⟩
          have Z2 := Lib.hid (oddsR_good iN ib io jf1)
          have hr2 := odds_bounds iN ib io jf1
          have hle := red_le (fnd_nonneg N b o 0 (f - 1)) (cnt_pos N o ho0 ho1) (fnd_le_all (n := o) (a := f - 1) hb0 hb1 (by omega))
          generalize fnd N b o 0 (f - 1) / gcdI (fnd N b o 0 (f - 1)) (cnt N o) = y1 at *
          generalize cnt N o / gcdI (fnd N b o 0 (f - 1)) (cnt N o) = y2 at *
          subst hM1
          subst hM2
          clear jf1 HM1 HM2 hcb
          go_wp2_with fail
          refine (opens_is o (f - 1) _).mono ?_
          rintro e w7 ⟨rfl, hB7⟩
          go_wp2_with fail
          refine (odds_ex N b o (f - 1) _ Z2.out).mono ?_
          rintro e w8 ⟨rfl, hB8⟩
          have hB9 := below_trans (below_trans hB7 hB8) (below_alloc (.cells #[.int .i64 y1, .int .i64 y2] 34))
          clear hB7 hB8
          have iy := inB_mk (n := y1) (lo := 0) (hi := y2) ⟨by omega, by omega⟩
          have Hiy := Lib.hid iy
          clear iy
          go_wp2_with fail
          refine (in_is y1 0 y2 _ Hiy.out).mono ?_
          rintro e w9 ⟨rfl, rfl⟩
          go_wp2_with fail
          refine (of_is (y2 - y1) y2 _).mono ?_
          rintro e wa ⟨rfl, hBa⟩
          have hBb := below_trans hB9 hBa
          have s66 := (HT6.out.get (B := w6.heap.size) (p := 1) (q := 1) (by simp)).2
          have hTa := HT6.out.below hBb
          obtain ⟨⟨e0, e1⟩, se⟩ := hTa.get (B := w6.heap.size) (p := 1) (q := 1) (by simp)
          have G0 := (hBb.frozen (p := ⟨w6.heap.size, 0, none⟩) s66).trans F0
          have G1 := (hBb.frozen (p := ⟨w6.heap.size, 1, none⟩) s66).trans F1
          have HR := Lib.hid (hTa.set (by simp; omega) (by omega) (y2 - y1) y2)
          clear hBb hTa hBa hB9 F0 F1
          go_wp2_with fail
          go_meet
          case rel => exact HR.out
        · have hM1 := HM1.out
          have hM2 := HM2.out
          unfold many1 at hM1
          unfold many2 at hM2
          rw [if_neg hf] at hM1 hM2
          subst hM1
          subst hM2
          go_wp2_with fail
          go_meet
          case rel => exact HT6.out
      case rest =>
        have HC := Lib.hid hcut
        clear hcut HT6 F0 F1 s25 s56 s26 s06 HM1 HM2
        obtain ⟨⟨d0, d1⟩, ld⟩ := HC.out.get (B := w.heap.size) (p := dof) (q := din) (by simp)
        obtain ⟨⟨z0, z1⟩, lz⟩ := HC.out.get (B := w2.heap.size) (p := zx) (q := zy) (by simp)
        obtain ⟨⟨e0, e1⟩, le⟩ := HC.out.get (B := w5.heap.size) (p := p1) (q := p2) (by simp)
        obtain ⟨⟨m0, m1⟩, lm⟩ := HC.out.get (B := w6.heap.size) (p := M1) (q := M2) (by simp)
        obtain ⟨q1, hq1⟩ : ∃ q, lessB dof din p1 p2 = q := ⟨_, rfl⟩
        obtain ⟨q2, hq2⟩ : ∃ q, lessB dof din M1 M2 = q := ⟨_, rfl⟩
        rw [hq1, hq2] at hcb
        have HQ1 := Lib.hid hq1
        have HQ2 := Lib.hid hq2
        clear hq1 hq2
        go_upto_region 15 with fail
        go_cut [16] (fun s16 wx => s16 = .bool (q1 && q2) ∧ Below wc.heap.size wc wx)
        case first =>
          rcases hze with ⟨rfl, _, _, _⟩ | ⟨rfl, rfl, rfl⟩
          · have Hin : Hid (inB b zx zy = (q1 && q2)) := by show _ = _; simpa using hcb
            clear hcb
            go_wp2_with fail
            refine (holds_is ⟨zx, zy⟩ b _ Hin.out).mono ?_
            rintro e w7 ⟨rfl, hB7⟩
            go_wp2_with fail
            go_meet
            case rel => exact ⟨rfl, hB7⟩
          · have Hin : Hid ((q1 && q2) = false) := by show _ = _; simpa using hcb.symm
            clear hcb
            go_wp2_with fail
            go_meet
            case rel => exact ⟨by rw [Hin.out], Below.refl _ _⟩
        case rest =>
          obtain ⟨rfl, hB7⟩ := hcut
          have HC7 := Lib.hid (HC.out.below hB7)
          clear d0 d1 z0 z1 e0 e1 m0 m1 ld lz le lm HC hB7 hcb
          obtain ⟨⟨d0, d1⟩, ld⟩ := HC7.out.get (B := w.heap.size) (p := dof) (q := din) (by simp)
          obtain ⟨⟨z0, z1⟩, lz⟩ := HC7.out.get (B := w2.heap.size) (p := zx) (q := zy) (by simp)
          obtain ⟨⟨e0, e1⟩, le⟩ := HC7.out.get (B := w5.heap.size) (p := p1) (q := p2) (by simp)
          obtain ⟨⟨m0, m1⟩, lm⟩ := HC7.out.get (B := w6.heap.size) (p := M1) (q := M2) (by simp)
          go_upto_region 16 with fail
          go_cut [133] (fun s133 wx => s133 = .bool false ∧ Below wc.heap.size wc wx)
          case first =>
            cases q1 with
            | false =>
              go_wp2_with fail
              refine (less_ex dof din p1 p2 _ (by omega) (by omega) (by omega) (by omega) (by omega) (by omega) (by omega) (by omega) HQ1.out).mono ?_
              rintro e w8 ⟨rfl, hB8⟩
              go_wp2_with fail
              go_meet
              case rel => exact ⟨rfl, hB8⟩
            | true =>
              go_wp2_with fail
              refine (less_ex dof din p1 p2 _ (by omega) (by omega) (by omega) (by omega) (by omega) (by omega) (by omega) (by omega) HQ1.out).mono ?_
              rintro e w8 ⟨rfl, hB8⟩
              have HC8 := Lib.hid (HC7.out.below hB8)
              clear d0 d1 z0 z1 e0 e1 m0 m1 ld lz le lm
              obtain ⟨⟨d0, d1⟩, ld⟩ := HC8.out.get (B := w.heap.size) (p := dof) (q := din) (by simp)
              obtain ⟨⟨m0, m1⟩, lm⟩ := HC8.out.get (B := w6.heap.size) (p := M1) (q := M2) (by simp)
              go_wp2_with fail
              refine (less_ex dof din M1 M2 _ (by omega) (by omega) (by omega) (by omega) (by omega) (by omega) (by omega) (by omega) HQ2.out).mono ?_
              rintro e w9 ⟨rfl, hB9⟩
              have hB10 := below_trans hB8 hB9
              clear hB8 hB9
              cases q2 with
              | false =>
                go_wp2_with fail
                go_meet
                case rel => exact ⟨rfl, hB10⟩
              | true =>
                go_wp2_with fail
                go_meet
                case rel => exact ⟨rfl, hB10⟩
          case rest =>
            obtain ⟨rfl, hB8⟩ := hcut
            have HC8 := Lib.hid (HC7.out.below hB8)
            clear d0 d1 z0 z1 e0 e1 m0 m1 ld lz le lm HC7 hB8
            obtain ⟨⟨d0, d1⟩, ld⟩ := HC8.out.get (B := w.heap.size) (p := dof) (q := din) (by simp)
            by_cases hdd : dof = din
            · subst hdd
              have Hf : Hid (belowR N N f dof dof = (0, 0, 4)) := by have := Hfull.out; rw [if_pos rfl] at this; exact this
              clear Hfull Hz HQ1 HQ2
              go_wp2_with fail
              refine (below_ex N N f dof dof _ Hf.out).mono ?_
              rintro e w9 ⟨rfl, hB9⟩
              have hT9 := HC8.out.below hB9
              have hB10 := below_more hT9.2 (.cells #[.int .i64 0, .int .i64 0] 47)
              obtain ⟨⟨c0, c1⟩, lc⟩ := hT9.get (B := w.heap.size) (p := dof) (q := dof) (by simp)
              clear hB9 hT9 HC8 d0 d1 ld
              go_wp2_with fail
              refine (works_is _).mono ?_
              rintro e wb ⟨rfl, hBb⟩
              have hBf := below_trans hB10 hBb
              clear hB10 hBb
              go_wp2_with fail
              go_ret
              exact ⟨rfl, hBf⟩
            · have Hf : Hid (belowR N N f dof din = (f, f, 0)) := by have := Hfull.out; rw [if_neg hdd] at this; exact this
              have hne : (dof == din) = false := by simpa using hdd
              clear Hfull Hz HQ1 HQ2
              go_wp2_with fail
              refine (below_ex N N f dof din _ Hf.out).mono ?_
              rintro e w9 ⟨rfl, hB9⟩
              have hT9 := HC8.out.below hB9
              have HT10 := Lib.hid (hT9.push f f 47)
              obtain ⟨⟨c0, c1⟩, lc⟩ := hT9.get (B := w.heap.size) (p := dof) (q := din) (by simp)
              clear hB9 hT9 HC8 d0 d1 ld
              go_wp2_with fail
              obtain ⟨WZ, hWZ⟩ : ∃ WZ, w9.alloc (.cells #[.int .i64 f, .int .i64 f] 47) = WZ := ⟨_, rfl⟩
              rw [hWZ] at HT10 ⊢
              clear hWZ c0 c1 lc
              obtain ⟨⟨c0, c1⟩, lc⟩ := HT10.out.get (B := w9.heap.size) (p := f) (q := f) (by simp)
              go_region_held3 (fun w' => w'.cell? ⟨w9.heap.size, 0, none⟩ = some (.int .i64 f) ∧ w'.cell? ⟨w9.heap.size, 1, none⟩ = some (.int .i64 f) ∧ Below WZ.heap.size WZ w')
                (first
                  | exact ⟨c0, c1, (Below.refl _ _).drew⟩
                  | exact ⟨(World.cell?_of_block (a := ⟨w9.heap.size, 0, none⟩) (hBn.block _ lc)).trans c0, (World.cell?_of_block (a := ⟨w9.heap.size, 1, none⟩) (hBn.block _ lc)).trans c1, below_trans (Below.refl _ _).drew hBn⟩
                  | exact ⟨(World.cell?_of_block (a := ⟨w9.heap.size, 0, none⟩) ((below_trans hBn hBm).block _ lc)).trans c0, (World.cell?_of_block (a := ⟨w9.heap.size, 1, none⟩) ((below_trans hBn hBm).block _ lc)).trans c1, below_trans (Below.refl _ _).drew (below_trans hBn hBm)⟩)
                (first
                  | (go_at_call 49; (with_reducible refine (to_is f f _).mono ?_); rintro e wn ⟨rfl, hBn⟩)
                  | (go_at_call 21; (with_reducible refine (works_is _).mono ?_); rintro e wm ⟨rfl, hBm⟩))
              have hBf := below_trans HT10.out.2 (below_trans (Below.refl _ _).drew (below_trans hBn hBm))
              go_wp2_with fail
              go_ret
              exact ⟨rfl, hBf⟩

set_option maxRecDepth 100000 in
theorem lifted15 (os : Os) (started : os.Started) (H : Type) (enc : TypeId × Value → H) :
    ReturnsInHanded {} Try.checked os 15 .any (Rows.brandDoubtSpec.pre6 enc Try.prog Try.f15 Rows.brandDoubtRow.domain false) (Rows.brandDoubtSpec.post enc Try.prog Try.f15 false true false false) := by
  refine returnsInHanded_of_change_sized (C := Try.checked) Try.own started (by kernel_rfl) Try.func15
    (ChangeSpec.witness6 (enc := enc) (C := Try.checked) false ⟨#[], #[.agg #[.int .i64 0, .int .i64 0], .agg #[.int .i64 0, .int .i64 0, .int .i64 0, .int .i64 0]], []⟩ 8 (by kernel_rfl) (by kernel_rfl) (by kernel_rfl) (by kernel_rfl)) ?_
  intro W base args ds gs before hval0 hW _ _ _
  have hval : ∀ (j : Nat) t v, Try.f15.params[j]? = some t → args[j]? = some v → Value.okWide Try.prog W .any base t v := hval0
  have hW' := hW
  obtain ⟨p, q, hA0, hV, rfl, _, _⟩ := hW
  have hA : DataW.TrodAll enc Try.prog W 0 (fun _ => true) true Try.f15.params.toList args.toList ds p := hA0
  rw [Try.params15] at hA hval
  obtain ⟨v0, v1, d0, d1, p0, p1, rfl, rfl, rfl, h0, h1⟩ := trodAll_two hA
  obtain ⟨rfl, rfl⟩ := trodVars_none hV
  obtain ⟨dof, din, rfl⟩ := open_odds h0 (hval 0 34 v0 rfl rfl)
  obtain ⟨x, rfl, f0, f1, f2, f3⟩ := open_n4_fits h1 (hval 1 23 v1 rfl rfl)
  clear hA0 hval0
  refine (law15 dof din x W f0 f1 f2 f3).mono fun e W' ⟨he, hb⟩ => ?_
  subst he
  exact ⟨_, rfl, law_shut (by kernel_rfl) (of_decide_eq_true (by kernel_rfl)) rfl rfl hW' hb⟩

theorem brandDoubt_holds : Rows.BrandDoubtSaid :=
  OpenClaim.holds_of_wide 15 Try.f15 rfl rfl rfl rfl rfl rfl rfl ⟨rfl, rfl, rfl, rfl, rfl⟩ rfl rfl rfl rfl rfl (by kernel_rfl) Try.func15 (by kernel_rfl)
    (of_decide_eq_true (by kernel_rfl)) (by unfold Func.isWrapper; first | (rw [if_pos (by decide +kernel)]; kernel_rfl) | (rw [if_neg (by decide +kernel)]; exact ⟨rfl, rfl⟩))
    (fun os started H enc _ => lifted15 os started H enc)

end Go.Proofs.Ythpllmefbhjmmaa
