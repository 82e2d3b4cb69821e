/-
  'BrandFalls' returns true, for any numbers: no condition.
-/
import Derived.Test.YthpllmefbhjmmaaOddsLaw
import Derived.Test.YthpllmefbhjmmaaArgNum
namespace Go.Proofs.Ythpllmefbhjmmaa
open Go.ChangeShapes Go.WideShapes Go.ChangeAt Go.RowKit Plain

/-- Five structs of two numbers. -/
def FiS (w0 : World) (A B C D E : Nat) (x1 x2 y1 y2 z1 z2 u1 u2 v1 v2 : Int) (w' : World) : Prop :=
  w'.cell? ⟨A, 0, none⟩ = some (.int .i64 x1) ∧ w'.cell? ⟨A, 1, none⟩ = some (.int .i64 x2) ∧ w'.cell? ⟨B, 0, none⟩ = some (.int .i64 y1) ∧ w'.cell? ⟨B, 1, none⟩ = some (.int .i64 y2) ∧
    w'.cell? ⟨C, 0, none⟩ = some (.int .i64 z1) ∧ w'.cell? ⟨C, 1, none⟩ = some (.int .i64 z2) ∧ w'.cell? ⟨D, 0, none⟩ = some (.int .i64 u1) ∧ w'.cell? ⟨D, 1, none⟩ = some (.int .i64 u2) ∧
    w'.cell? ⟨E, 0, none⟩ = some (.int .i64 v1) ∧ w'.cell? ⟨E, 1, none⟩ = some (.int .i64 v2) ∧ Below w0.heap.size w0 w'
theorem FiS.drew {w0 : World} {A B C D E : Nat} {x1 x2 y1 y2 z1 z2 u1 u2 v1 v2 : Int} {w' : World} (h : FiS w0 A B C D E x1 x2 y1 y2 z1 z2 u1 u2 v1 v2 w') : FiS w0 A B C D E x1 x2 y1 y2 z1 z2 u1 u2 v1 v2 w'.drew := by
  obtain ⟨h0, h1, h2, h3, h4, h5, h6, h7, h8, h9, hb⟩ := h
  exact ⟨h0, h1, h2, h3, h4, h5, h6, h7, h8, h9, hb.drew⟩
theorem FiS.below {w0 : World} {A B C D E : Nat} {x1 x2 y1 y2 z1 z2 u1 u2 v1 v2 : Int} {w' w2 : World} (h : FiS w0 A B C D E x1 x2 y1 y2 z1 z2 u1 u2 v1 v2 w') (hB : Below w'.heap.size w' w2) : FiS w0 A B C D E x1 x2 y1 y2 z1 z2 u1 u2 v1 v2 w2 := by
  obtain ⟨h0, h1, h2, h3, h4, h5, h6, h7, h8, h9, hb⟩ := h
  have k : ∀ (b i : Nat) {v : Value}, w'.cell? ⟨b, i, none⟩ = some v → w2.cell? ⟨b, i, none⟩ = some v := fun b i v hc => (World.cell?_of_block (a := ⟨b, i, none⟩) (hB.block _ (World.block_lt_of_cell? _ _ hc))).trans hc
  exact ⟨k _ _ h0, k _ _ h1, k _ _ h2, k _ _ h3, k _ _ h4, k _ _ h5, k _ _ h6, k _ _ h7, k _ _ h8, k _ _ h9, below_trans hb hB⟩

theorem in_b {r : Bool} (n lo hi : Int) (w : World) (h : inB n lo hi = r) :
    Calls Try.prog 34 #[.int .i64 n, .int .i64 lo, .int .i64 hi] w fun e w' => e = .returned (.bool r) ∧ Below w.heap.size w w' :=
  (in_is n lo hi w h).mono fun _ _ ⟨he, hw⟩ => ⟨he, by subst hw; exact Below.refl _ _⟩

set_option maxRecDepth 100000 in
set_option maxHeartbeats 3200000 in
theorem law12 (x : Br) (w : World) (h0 : fits x.b0) (h1 : fits x.b1) (h2 : fits x.b2) (h3 : fits x.b3) :
    Calls Try.prog 12 #[brV x] w fun e w' => e = .returned (.bool true) ∧ Below w.heap.size w w' := by
  obtain ⟨n0, n1, n2, n3⟩ := x
  obtain ⟨a0, b0⟩ := h0
  obtain ⟨a1, b1⟩ := h1
  obtain ⟨a2, b2⟩ := h2
  obtain ⟨a3, b3⟩ := h3
  simp only at a0 b0 a1 b1 a2 b2 a3 b3
  have m0 := Int.emod_nonneg n0 (show (40 : Int) ≠ 0 by omega)
  have m1 := Int.emod_lt_of_pos n0 (show (0 : Int) < 40 by omega)
  have hB := below_alloc (w := w) (.cells #[.int .i64 n0, .int .i64 n1, .int .i64 n2, .int .i64 n3] 23)
  have hX : BrAt (w.alloc (.cells #[.int .i64 n0, .int .i64 n1, .int .i64 n2, .int .i64 n3] 23)) w.heap.size 0 ⟨n0, n1, n2, n3⟩ := by unfold BrAt; go_simp
  have hl : w.heap.size < (w.alloc (.cells #[.int .i64 n0, .int .i64 n1, .int .i64 n2, .int .i64 n3] 23)).heap.size := by simp
  go_enter Try.func12, Try.ntmps12
  go_wp2_with fail
  refine (mod_is n0 40 _ a0 b0 (by omega) (by omega)).mono ?_
  rintro e w1 ⟨rfl, rfl⟩
  obtain ⟨N, hN⟩ : ∃ N, 1 + n0 % 40 = N := ⟨_, rfl⟩
  have hN1 : 1 ≤ N := by omega
  have hN2 : N ≤ 40 := by omega
  obtain ⟨W, hW⟩ : ∃ W, w.alloc (.cells #[.int .i64 n0, .int .i64 n1, .int .i64 n2, .int .i64 n3] 23) = W := ⟨_, rfl⟩
  rw [hW] at hB hX hl ⊢
  clear hW
  obtain ⟨x0, x1, x2, x3⟩ := hX
  simp only at x0 x1 x2 x3
  go_wp2_with fail
  obtain ⟨b, hb⟩ : ∃ b, n1 % (N + 1) = b := ⟨_, rfl⟩
  obtain ⟨o, ho⟩ : ∃ o, n2 % (N + 1) = o := ⟨_, rfl⟩
  have hb0 : 0 ≤ b := by rw [← hb]; exact Int.emod_nonneg n1 (by omega)
  have hb1 : b ≤ N := by have := Int.emod_lt_of_pos n1 (show 0 < N + 1 by omega); omega
  have ho0 : 0 ≤ o := by rw [← ho]; exact Int.emod_nonneg n2 (by omega)
  have ho1 : o ≤ N := by have := Int.emod_lt_of_pos n2 (show 0 < N + 1 by omega); omega
  obtain ⟨a, ha⟩ : ∃ a, n3 % (o + 1) = a := ⟨_, rfl⟩
  have ha0 : 0 ≤ a := by rw [← ha]; exact Int.emod_nonneg n3 (by omega)
  have ha1 : a ≤ o := by have := Int.emod_lt_of_pos n3 (show 0 < o + 1 by omega); omega
  clear hN m0 m1
  go_quiet ((go_at_call 33; refine Calls.quiet_of_same (mod_q _ _ _ (by omega) (by omega) (by omega) (by omega))))
  rw [hb, ho]
  have HBd : Hid (Below w.heap.size w (W.drewN nq)) := below_drewN hB _
  have x3' : (W.drewN nq).cell? ⟨w.heap.size, 3, none⟩ = some (.int .i64 n3) := x3
  obtain ⟨W1, hW1⟩ : ∃ W1, W.drewN nq = W1 := ⟨_, rfl⟩
  rw [hW1] at HBd x3' ⊢
  clear hW1 x0 x1 x2 x3 hB hl hb ho
  go_wp2_with fail
  refine (mod_is n3 (o + 1) _ a3 b3 (by omega) (by omega)).mono ?_
  rintro e w2 ⟨rfl, rfl⟩
  rw [ha]
  clear x3' ha a0 b0 a1 b1 a2 b2 a3 b3
  obtain ⟨b', hb'⟩ : ∃ x, min N (b + 1) = x := ⟨_, rfl⟩
  obtain ⟨a', ha'⟩ : ∃ x, max 0 (a - 1) = x := ⟨_, rfl⟩
  have hb'0 : b ≤ b' := by omega
  have hb'1 : b' ≤ N := by omega
  have ha'0 : 0 ≤ a' := by omega
  have ha'1 : a' ≤ a := by omega
  have iN := inB_mk (n := N) (lo := 1) (hi := 40) ⟨hN1, hN2⟩
  have ib := inB_mk (n := b) (lo := 0) (hi := N) ⟨hb0, hb1⟩
  have ib' := inB_mk (n := b') (lo := 0) (hi := N) ⟨by omega, hb'1⟩
  have io := inB_mk (n := o) (lo := 0) (hi := N) ⟨ho0, ho1⟩
  have ia := inB_mk (n := a) (lo := 0) (hi := o) ⟨ha0, ha1⟩
  have ia' := inB_mk (n := a') (lo := 0) (hi := o) ⟨ha'0, by omega⟩
  have i0 := inB_mk (n := 0) (lo := 0) (hi := N) ⟨by omega, by omega⟩
  have ioo := inB_mk (n := o) (lo := 0) (hi := o) ⟨ho0, by omega⟩
  have hC := cnt_pos N o ho0 ho1
  have Z0 := Lib.hid (oddsR_good iN ib io ia)
  have Z1 := Lib.hid (oddsR_good iN ib' io ia)
  have Z2 := Lib.hid (oddsR_good iN ib io ia')
  have one : ∀ C : Int, 0 < C → C / gcdI C C = 1 := fun C h => by rw [gcdI_same C (by omega), Int.ediv_self (by omega)]
  have Z3 : Hid (oddsR N 0 o a = (1, 1, 0)) := by show _ = _; rw [oddsR_good iN i0 io ia, fnd_none N o a ha0, one _ hC]
  have Z4 : Hid (oddsR N b o o = (1, 1, 0)) := by
    show _ = _
    obtain ⟨bn, rfl⟩ := Int.eq_ofNat_of_zero_le hb0
    rw [oddsR_good iN ib io ioo, fnd_all N o ho0 bn hb1, one _ hC]
  have hr0 := odds_bounds iN ib io ia
  have hr1 := odds_bounds iN ib' io ia
  have hr2 := odds_bounds iN ib io ia'
  have F0 := fnd_nonneg N b o 0 a
  have F1 := fnd_nonneg N b' o 0 a
  have F2 := fnd_nonneg N b o 0 a'
  have hin := inB_mk (n := fnd N b o 0 a / gcdI (fnd N b o 0 a) (cnt N o)) (lo := 0) (hi := cnt N o / gcdI (fnd N b o 0 a) (cnt N o)) ⟨hr0.1, red_le F0 hC (fnd_le_all hb0 hb1 ha0)⟩
  have hL1 : lessB _ _ _ _ = false := (less_two F0 F1 hC).trans (decide_eq_false (by have := fnd_anti (N := N) (n := o) (a := a) hb0 hb'0 hb'1; omega))
  have hL2 : lessB _ _ _ _ = false := (less_two F0 F2 hC).trans (decide_eq_false (by have := fnd_allow (N := N) (n := o) (b := b) ha'1; omega))
  generalize fnd N b o 0 a / gcdI (fnd N b o 0 a) (cnt N o) = x1 at *
  generalize cnt N o / gcdI (fnd N b o 0 a) (cnt N o) = x2 at *
  generalize fnd N b' o 0 a / gcdI (fnd N b' o 0 a) (cnt N o) = y1 at *
  generalize cnt N o / gcdI (fnd N b' o 0 a) (cnt N o) = y2 at *
  generalize fnd N b o 0 a' / gcdI (fnd N b o 0 a') (cnt N o) = z1 at *
  generalize cnt N o / gcdI (fnd N b o 0 a') (cnt N o) = z2 at *
  have Hin := Lib.hid hin
  have HL1 := Lib.hid hL1
  have HL2 := Lib.hid hL2
  clear iN ib ib' io ia ia' i0 ioo hC one F0 F1 F2 hin hL1 hL2
  have HT : Hid (Twos w [] W1) := ⟨by simp, HBd.out⟩
  clear HBd
  go_wp2_with fail
  refine (opens_is o a _).mono ?_
  rintro e w3 ⟨rfl, hB3⟩
  have HT1 := Lib.hid (HT.out.below hB3)
  clear hB3 HT
  go_wp2_with fail
  refine (odds_ex N b o a _ Z0.out).mono ?_
  rintro e w4 ⟨rfl, hB4⟩
  have HT2 := Lib.hid ((HT1.out.below hB4).push x1 x2 34)
  clear hB4 HT1
  go_wp2_with fail
  refine (opens_is o a _).mono ?_
  rintro e w5 ⟨rfl, hB5⟩
  have HT3 := Lib.hid (HT2.out.below hB5)
  clear hB5 HT2
  go_wp2_with fail
  refine (odds_ex N b' o a _ Z1.out).mono ?_
  rintro e w6 ⟨rfl, hB6⟩
  have HT4 := Lib.hid ((HT3.out.below hB6).push y1 y2 34)
  clear hB6 HT3
  go_wp2_with fail
  refine (opens_is o a' _).mono ?_
  rintro e w7 ⟨rfl, hB7⟩
  have HT5 := Lib.hid (HT4.out.below hB7)
  clear hB7 HT4
  go_wp2_with fail
  refine (odds_ex N b o a' _ Z2.out).mono ?_
  rintro e w8 ⟨rfl, hB8⟩
  have HT6 := Lib.hid ((HT5.out.below hB8).push z1 z2 34)
  clear hB8 HT5
  go_wp2_with fail
  refine (opens_is o a _).mono ?_
  rintro e w9 ⟨rfl, hB9⟩
  have HT7 := Lib.hid (HT6.out.below hB9)
  clear hB9 HT6
  go_wp2_with fail
  refine (odds_ex N 0 o a _ Z3.out).mono ?_
  rintro e wa ⟨rfl, hBa⟩
  have HT8 := Lib.hid ((HT7.out.below hBa).push 1 1 34)
  clear hBa HT7
  go_wp2_with fail
  refine (opens_is o o _).mono ?_
  rintro e wb ⟨rfl, hBb⟩
  have HT9 := Lib.hid (HT8.out.below hBb)
  clear hBb HT8
  go_wp2_with fail
  refine (odds_ex N b o o _ Z4.out).mono ?_
  rintro e wc ⟨rfl, hBc⟩
  have hTc := HT9.out.below hBc
  have HTc := Lib.hid (hTc.push 1 1 34)
  have hp0 : 0 < x2 := by omega
  have hp1 : 0 < y2 := by omega
  have hp2 : 0 < z2 := by omega
  clear hBc HT9
  go_wp2_with fail
  obtain ⟨W2, hW2⟩ : ∃ W2, wc.alloc (.cells #[.int .i64 1, .int .i64 1] 34) = W2 := ⟨_, rfl⟩
  rw [hW2] at HTc ⊢
  clear hW2
  have HF : Hid (FiS W2 w4.heap.size w6.heap.size w8.heap.size wa.heap.size wc.heap.size x1 x2 y1 y2 z1 z2 1 1 1 1 W2) := by
    have g := fun B p q hx => (HTc.out.get (B := B) (p := p) (q := q) hx).1
    obtain ⟨c0, c1⟩ := g w4.heap.size x1 x2 (by simp)
    obtain ⟨c2, c3⟩ := g w6.heap.size y1 y2 (by simp)
    obtain ⟨c4, c5⟩ := g w8.heap.size z1 z2 (by simp)
    obtain ⟨c6, c7⟩ := g wa.heap.size 1 1 (by simp)
    obtain ⟨c8, c9⟩ := g wc.heap.size 1 1 (by simp)
    exact ⟨c0, c1, c2, c3, c4, c5, c6, c7, c8, c9, Below.refl _ _⟩
  generalize w4.heap.size = A at *
  generalize w6.heap.size = B at *
  generalize w8.heap.size = C at *
  generalize wa.heap.size = D at *
  generalize wc.heap.size = E at *
  have HBd := Lib.hid HTc.out.2
  clear HTc hTc
  simp only [List.append]
  go_region_held3 (fun w' => w'.cell? ⟨A, 0, none⟩ = some (.int .i64 x1) ∧ w'.cell? ⟨A, 1, none⟩ = some (.int .i64 x2) ∧ w'.cell? ⟨B, 0, none⟩ = some (.int .i64 y1) ∧ w'.cell? ⟨B, 1, none⟩ = some (.int .i64 y2) ∧
      w'.cell? ⟨C, 0, none⟩ = some (.int .i64 z1) ∧ w'.cell? ⟨C, 1, none⟩ = some (.int .i64 z2) ∧ w'.cell? ⟨D, 0, none⟩ = some (.int .i64 1) ∧ w'.cell? ⟨D, 1, none⟩ = some (.int .i64 1) ∧
      w'.cell? ⟨E, 0, none⟩ = some (.int .i64 1) ∧ w'.cell? ⟨E, 1, none⟩ = some (.int .i64 1) ∧ Below W2.heap.size W2 w')
    (first | exact HF.out.drew | exact FiS.below (by assumption) hBn)
    (first
      | (go_at_call 34; refine (in_b _ _ _ _ Hin.out).mono ?_; rintro e wn ⟨rfl, hBn⟩)
      | (go_at_call 47; refine (less_ex _ _ _ _ _ (by omega) (by omega) (by omega) (by omega) (by omega) (by omega) (by omega) (by omega) (by first | exact HL1.out | exact HL2.out)).mono ?_; rintro e wn ⟨rfl, hBn⟩)
      | (go_at_call 46; refine (of_is 1 1 _).mono ?_; rintro e wn ⟨rfl, hBn⟩)
      | (go_at_call 21; refine (works_is _).mono ?_; rintro e wn ⟨rfl, hBn⟩))
  have hF : FiS W2 A B C D E x1 x2 y1 y2 z1 z2 1 1 1 1 wn := by assumption
  have hBf := below_trans HBd.out hF.2.2.2.2.2.2.2.2.2.2
  go_wp2_with fail
  go_ret
  exact ⟨rfl, hBf⟩

set_option maxRecDepth 100000 in
theorem lifted12 (os : Os) (started : os.Started) (H : Type) (enc : TypeId × Value → H) :
    ReturnsInHanded {} Try.checked os 12 .any (Rows.brandFallsSpec.pre6 enc Try.prog Try.f12 Rows.brandFallsRow.domain false) (Rows.brandFallsSpec.post enc Try.prog Try.f12 false true false false) := by
  refine returnsInHanded_of_change_sized (C := Try.checked) Try.own started (by kernel_rfl) Try.func12
    (ChangeSpec.witness6 (enc := enc) (C := Try.checked) false ⟨#[], #[.agg #[.int .i64 0, .int .i64 0, .int .i64 0, .int .i64 0]], []⟩ 8 (by kernel_rfl) (by kernel_rfl) (by kernel_rfl) (by kernel_rfl)) ?_
  intro W base args ds gs before hval0 hW _ _ _
  have hval : ∀ (j : Nat) t v, Try.f12.params[j]? = some t → args[j]? = some v → Value.okWide Try.prog W .any base t v := hval0
  have hW' := hW
  obtain ⟨p, q, hA0, hV, rfl, _, _⟩ := hW
  have hA : DataW.TrodAll enc Try.prog W 0 (fun _ => true) true Try.f12.params.toList args.toList ds p := hA0
  rw [Try.params12] at hA hval
  obtain ⟨v0, d0, rfl, rfl, h0⟩ := trodAll_one hA
  obtain ⟨rfl, rfl⟩ := trodVars_none hV
  obtain ⟨x, rfl, f0, f1, f2, f3⟩ := open_n4_fits h0 (hval 0 23 v0 rfl rfl)
  clear hA0 hval0
  refine (law12 x W f0 f1 f2 f3).mono fun e W' ⟨he, hb⟩ => ?_
  subst he
  exact ⟨_, rfl, law_shut (by kernel_rfl) (of_decide_eq_true (by kernel_rfl)) rfl rfl hW' hb⟩

theorem brandFalls_holds : Rows.BrandFallsSaid :=
  OpenClaim.holds_of_wide 12 Try.f12 rfl rfl rfl rfl rfl rfl rfl ⟨rfl, rfl, rfl, rfl, rfl⟩ rfl rfl rfl rfl rfl (by kernel_rfl) Try.func12 (by kernel_rfl)
    (of_decide_eq_true (by kernel_rfl)) (by unfold Func.isWrapper; first | (rw [if_pos (by decide +kernel)]; kernel_rfl) | (rw [if_neg (by decide +kernel)]; exact ⟨rfl, rfl⟩))
    (fun os started H enc _ => lifted12 os started H enc)

end Go.Proofs.Ythpllmefbhjmmaa
