/-
  The walk of 'TopPacked': it answers true, for any yard, months and numbers that fit; all else stays as it was.
-/
import Derived.Test.YthpllmefbhjmmaaRunAll
import Derived.Test.YthpllmefbhjmmaaPacked07
import Derived.Test.YthpllmefbhjmmaaBarrelRows
import Derived.Deep.DeepCutAuto
import Derived.Deep.RegionHeld3
import Derived.BigQuiet
namespace Go.Proofs.Ythpllmefbhjmmaa
open Go.RowKit Go.Maps Plain
attribute [local go_sem] Oper.semAt_some

theorem IntsAt.stay {W W' : World} {v : Value} {l : List Int} (h : IntsAt W v l) (hs : Stay W W') : IntsAt W' v l := by
  obtain ⟨a, cap, hv, hm⟩ := h
  refine ⟨a, cap, hv, fun i n hi => ?_⟩
  obtain ⟨b, off, ha, hc⟩ := hm i n hi
  exact ⟨b, off, ha, hs _ _ hc⟩

set_option maxRecDepth 100000 in
set_option maxHeartbeats 1600000 in
theorem law9_end (z : Int) (v bv : Value) (n : Int) (l : List Ck) (w : World) (hl : CksAt w v l) (n0 : -9223372036854775808 ≤ n) (n1 : n ≤ 9223372036854775807) (hz : z = 61)
    (hkeep : Calls Try.prog 39 #[v, .int .i64 (n % 13)] w fun e w' => e = .returned (.tuple #[.slice none 0 0, .int .i64 z]) ∧ Below w.heap.size w w') :
    Calls Try.prog 9 #[v, .int .i64 n, bv] w fun e w' => e = .returned (.bool true) ∧ Below w.heap.size w w' := by
  have Hk := Lib.hid hkeep
  have hne : (z == 0) = false := beq_eq_false_iff_ne.2 (by omega)
  have hne2 : (z != 0) = true := by simp; omega
  obtain ⟨va, vc, rfl, _⟩ := hl
  clear hkeep hz
  go_enter Try.func9, Try.ntmps9
  go_wp2_with fail
  refine (mod_is n 13 _ n0 n1 (by omega) (by omega)).mono ?_
  rintro e w1 ⟨rfl, rfl⟩
  go_wp2_with fail
  refine Hk.out.mono ?_
  rintro e w2 ⟨rfl, hB⟩
  have HB := Lib.hid hB
  clear hB Hk
  go_wp2_with fail
  refine (packed_is _).mono ?_
  rintro e w3 ⟨rfl, hB3⟩
  have HB3 := Lib.hid (below_trans HB.out hB3)
  clear hB3
  go_wp2_with fail
  go_ret
  exact ⟨rfl, HB3.out⟩

/-- What the statement of a leak reads: the span of its barrel; all else as it was. -/
abbrev KP (W0 : World) (b o : Nat) (lo hi : Int) (w' : World) : Prop := w'.cell? ⟨b, o + 3, none⟩ = some (.int .i64 lo) ∧ w'.cell? ⟨b, o + 4, none⟩ = some (.int .i64 hi) ∧ Below W0.heap.size W0 w'
theorem KP.of {W0 : World} {b o : Nat} {lo hi : Int} {w' : World} (h : KP W0 b o lo hi W0) (hB : Below W0.heap.size W0 w') : KP W0 b o lo hi w' := ⟨Stay.below hB _ _ h.1, Stay.below hB _ _ h.2.1, hB⟩
theorem KP.drew {W0 : World} {b o : Nat} {lo hi : Int} {w' : World} (h : KP W0 b o lo hi w') : KP W0 b o lo hi w'.drew := ⟨h.1, h.2.1, h.2.2.drew⟩
theorem KP.ints {W0 : World} {b o : Nat} {lo hi : Int} {w' : World} {v : Value} {l : List Int} (h : KP W0 b o lo hi w') (hi' : IntsAt W0 v l) : IntsAt w' v l := hi'.stay (Stay.below h.2.2)
theorem sBar_step (G : Nat → Int) (j : Nat) : cellsB (sBars G j) ++ [.int .i64 0, .int .i64 0, .int .i64 (G j), .int .i64 0] = cellsB (sBars G (j + 1)) := by rw [sBars_succ, cellsB_append]; rfl
theorem mk_new' (W : World) (m : Mk) : MkAt (W.alloc (.cells #[.int .i64 m.s0.lo, .int .i64 m.s0.hi, .int .i64 m.s1.lo, .int .i64 m.s1.hi, .int .i64 m.s2.lo, .int .i64 m.s2.hi, .int .i64 m.s3.lo, .int .i64 m.s3.hi] 62)) W.heap.size 0 m := by
  unfold MkAt; exact ⟨by go_simp, by go_simp, by go_simp, by go_simp, by go_simp, by go_simp, by go_simp, by go_simp⟩
theorem marks_one' {w : World} {b off : Nat} {m : Mk} (h : MkAt w b off m) (c : Nat) : MarksAt w (.slice (some ⟨b, off, none⟩) 1 c) [m] := by
  refine ⟨_, c, rfl, fun i m' hi => ?_⟩
  cases i with
  | zero =>
    simp only [List.getElem?_cons_zero, Option.some.injEq] at hi
    subst hi
    exact ⟨b, off, rfl, by rw [Nat.zero_mul, Nat.add_zero]; exact h⟩
  | succ i => simp at hi
/-- The box of the strictest rule; all else as it was. -/
abbrev KR (W0 : World) (B : Nat) (w' : World) : Prop := w'.cell? ⟨B, 0, none⟩ = some (.int .i64 0) ∧ w'.cell? ⟨B, 1, none⟩ = some (.int .i64 1) ∧ w'.cell? ⟨B, 2, none⟩ = some (.int .i64 1) ∧ w'.cell? ⟨B, 3, none⟩ = some (.int .i64 1) ∧ w'.cell? ⟨B, 4, none⟩ = some (.int .i64 0) ∧ w'.cell? ⟨B, 5, none⟩ = some (.int .i64 1) ∧ Below W0.heap.size W0 w'
theorem KR.kept {W0 w' w2 : World} {B : Nat} (h : KR W0 B w') (hb : w2.heap[B]? = w'.heap[B]?) (hB : Below W0.heap.size W0 w2) : KR W0 B w2 := by
  have k : ∀ i, w2.cell? ⟨B, i, none⟩ = w'.cell? ⟨B, i, none⟩ := fun i => World.cell?_of_block (a := ⟨B, i, none⟩) hb
  obtain ⟨h0, h1, h2, h3, h4, h5, _⟩ := h
  exact ⟨(k _).trans h0, (k _).trans h1, (k _).trans h2, (k _).trans h3, (k _).trans h4, (k _).trans h5, hB⟩
theorem KR.lt {W0 w' : World} {B : Nat} (h : KR W0 B w') : B < w'.heap.size := World.block_lt_of_cell? w' _ h.1
theorem KR.below {W0 w' w2 : World} {B : Nat} (h : KR W0 B w') (hB : Below w'.heap.size w' w2) : KR W0 B w2 := h.kept (hB.block _ h.lt) (below_trans h.2.2.2.2.2.2 hB)
theorem KR.drew {W0 w' : World} {B : Nat} (h : KR W0 B w') : KR W0 B w'.drew := by
  obtain ⟨h0, h1, h2, h3, h4, h5, hb⟩ := h
  exact ⟨h0, h1, h2, h3, h4, h5, hb.drew⟩

set_option maxRecDepth 100000 in
set_option maxHeartbeats 40000000 in
theorem law9_good (v bv : Value) (n : Int) (l : List Ck) (bits : List Int) (M : Nat) (w : World) (hl : CksAt w v l) (hy : yardB l = true) (hb : IntsAt w bv bits) (hbl : bits.length ≤ 140737488351232) (hbf : ∀ x ∈ bits, -9223372036854775808 ≤ x ∧ x ≤ 9223372036854775807)
    (n0 : -9223372036854775808 ≤ n) (n1 : n ≤ 9223372036854775807) (hM : n % 13 = M) (hM12 : M ≤ 12) :
    Calls Try.prog 9 #[v, .int .i64 n, bv] w fun e w' => e = .returned (.bool true) ∧ Below w.heap.size w w' := by
  obtain ⟨l1, l4⟩ := yard_len hy
  have Hl := Lib.hid hl
  have Hy := Lib.hid hy
  have Hb := Lib.hid hb
  have Hbf := Lib.hid hbf
  have HM := Lib.hid hM
  have hin := inB_mk (n := (l.length : Int)) (lo := 1) (hi := 4) ⟨by omega, by omega⟩
  have Hin := Lib.hid hin
  obtain ⟨va, vc, rfl, _⟩ := hl
  obtain ⟨ba, bc, rfl, _⟩ := hb
  clear hy hbf hM hin
  go_enter Try.func9, Try.ntmps9
  go_wp2_with fail
  refine (mod_is n 13 _ n0 n1 (by omega) (by omega)).mono ?_
  rintro e w1 ⟨rfl, rfl⟩
  rw [HM.out]
  go_wp2_with fail
  refine (keep_good _ l M _ Hl.out (by omega) Hy.out (by omega) (by omega)).mono ?_
  rintro e w0 ⟨hpost, hB0⟩
  have HB0 := Lib.hid hB0
  clear hB0
  rcases hpost with rfl | ⟨p, pv, hpM, hkp, rfl, hpa⟩
  · clear Hl Hb
    go_wp2_with fail
    refine (packed_is _).mono ?_
    rintro e w3 ⟨rfl, hB3⟩
    have HB3 := Lib.hid (below_trans HB0.out hB3)
    clear hB3
    go_wp2_with fail
    go_ret
    exact ⟨rfl, HB3.out⟩
  · have hs0 := Stay.below HB0.out
    have Hl0 := Lib.hid (Hl.out.stay hs0)
    have Hb0 := Lib.hid (Hb.out.stay hs0)
    have Hp0 := Lib.hid hpa
    have Hkp := Lib.hid hkp
    obtain rfl : M = p.length := by omega
    obtain ⟨pa, pc, rfl, _⟩ := hpa.get
    clear hs0 hpM hkp hpa Hl Hb
    go_wp2_with fail
    refine (in_is _ _ _ _ Hin.out).mono ?_
    rintro e w1 ⟨rfl, rfl⟩
    obtain ⟨i0, hi0, hz0, hz1, hz2⟩ := info_parts info52
    obtain ⟨k0, hk0, hy0, hy1, hy2⟩ := info_parts info3p
    go_wp2_with fail
    go_loopw [10, 9] (fun i v wr => ∃ m : Nat, m ≤ p.length ∧ i = .int .i64 m ∧ LkS w0.heap.size l.length (xOf l bits) v m wr ∧ Below w0.heap.size w0 wr) (fun i _ _ => p.length - (intOf i).toNat)
    case atStart => exact ⟨0, by omega, rfl, LkS.start _ _ _, Below.refl _ _⟩
    case round =>
      obtain ⟨m, hm, rfl, hL, hB⟩ := hrel
      by_cases hlt : m < p.length
      · as_aux_lemma =>
        have hm1 : (m : Int) < (p.length : Int) := by omega
        have hm0 : (0 : Int) ≤ (m : Int) := by omega
        have HL := Lib.hid hL
        have HB := Lib.hid hB
        clear hL hB
        obtain ⟨wo, rfl⟩ : ∃ wo : World, wo = wr := ⟨_, rfl⟩
        obtain ⟨vk, hvk⟩ : ∃ vk, vk = u9 := ⟨_, rfl⟩
        go_wp2_with fail
        go_loopw [12, 11] (fun i v wr => ∃ j : Nat, j ≤ l.length ∧ i = .int .i64 j ∧ wr.ownsRow wo.heap.size 3 1 v j (levRow (xOf l bits m) j) ∧ Below wo.heap.size wo wr) (fun i _ _ => l.length - (intOf i).toNat)
        case atStart => exact ⟨0, by omega, rfl, ⟨rfl, .inl ⟨rfl, rfl⟩⟩, Below.refl _ _⟩
        case round =>
          obtain ⟨j, hj, rfl, hown, hBq⟩ := hrel
          by_cases hlt2 : j < l.length
          · have hj1 : (j : Int) < (l.length : Int) := by omega
            have hj0 : (0 : Int) ≤ (j : Int) := by omega
            have hs := Stay.below HB.out
            obtain ⟨b', off', rfl, hck⟩ : ∃ b' off', va = some ⟨b', off', none⟩ ∧ CkAt wo b' (off' + j * 5) l[j] := by
              obtain ⟨a', c', hv', hm'⟩ := Hl0.out.stay hs
              injection hv' with hv' _ _
              obtain ⟨b', off', hbo, hc⟩ := hm' j l[j] (List.getElem?_eq_getElem hlt2)
              exact ⟨b', off', hv'.trans hbo, hc⟩
            obtain ⟨_, _, _, d3, d4⟩ := hck
            have hck := ck_bounds Hy.out hlt2
            have hxx := xOf_get (bits := bits) (m := m) hlt2
            have hpf := pickI_fits Hbf.out (5 * m + j)
            have Hbr := Lib.hid (Hb0.out.stay hs)
            have Hown := Lib.hid hown
            have HBq := Lib.hid hBq
            have Hst := Lib.hid (levRow_succ (xOf l bits m) j)
            generalize l[j].lo = lo at *
            generalize l[j].hi = hi at *
            have hck2 : 0 ≤ lo ∧ lo ≤ hi ∧ hi ≤ 1000 := by omega
            obtain ⟨e0, e1, e2⟩ := hck2
            obtain ⟨f0, f1⟩ := hpf
            have hidx : (5 : Int) * (m : Int) + (j : Int) = ((5 * m + j : Nat) : Int) := by omega
            have hwm : IntKind.i64.wrap (5 * (m : Int)) = 5 * (m : Int) := IntWalk.i64_in _ (by omega)
            have hwa : IntKind.i64.wrap (5 * (m : Int) + (j : Int)) = ((5 * m + j : Nat) : Int) := by rw [hidx]; exact IntWalk.i64_in _ (by omega)
            have Hpk := Lib.hid (fun (W : World) (h : IntsAt W (.slice ba bits.length bc) bits) => pick41 (.slice ba bits.length bc) bits (5 * m + j) W h hbl (by omega))
            generalize pickI bits (5 * m + j) = pk at *
            generalize hq : 5 * m + j = q at *
            have Hch := Lib.hid (fun (W : World) => chosen40 lo hi pk W e0 e1 e2 f0 f1)
            rw [← hxx] at Hch
            generalize xOf l bits m j = xx at *
            have HKP : Hid (KP wo b' (off' + j * 5) lo hi wo) := ⟨d3, d4, Below.refl _ _⟩
            clear hs hown hBq hck hxx hidx
            clear d3 d4
            go_upto_region 13 with fail
            go_region_held3 (fun w' => w'.cell? ⟨b', off' + j * 5 + 3, none⟩ = some (.int .i64 lo) ∧ w'.cell? ⟨b', off' + j * 5 + 4, none⟩ = some (.int .i64 hi) ∧ Below wo.heap.size wo w')
              (first
                | with_reducible exact KP.drew (KP.of HKP.out HBq.out)
                | with_reducible exact KP.drew (KP.of HKP.out (below_more HBq.out _))
                | with_reducible exact KP.of HKP.out hB5)
              (first
                | (go_at_call 41
                   refine (Hpk.out _ ?_).mono ?_
                   · exact KP.ints (by assumption) Hbr.out
                   rintro e wq ⟨rfl, rfl⟩)
                | (go_at_call 40; (with_reducible refine (Hch.out _).mono ?_); rintro e wq ⟨rfl, rfl⟩)
                | (refine step_append_lies _ (by rfl) _ _ _ (by rfl) wo.heap.size 3 k0 _ 1 8 Try.underlying52 hk0 hy0 hy1 hy2 rfl (by omega) _ j (levRow (xOf l bits m) j) (by rfl) ((Hown.out.alloc _).drew) ⟨wr.heap.size, 0, none⟩ 1 1 [.int .i64 xx] (by rfl) (by rfl) (World.news_of_block (cs := #[.int .i64 xx]) (t := 3) (fr := (0, 0)) (heap_alloc_new wr _)) (by simp [Value.oneCell']) (by omega) (by unfold maxLen; omega) (by omega) (by have := HBq.out.size; simp; omega) (wr.heap.size + 1) (by simp) ?_
                   intro g5 c5 w5 hown5 hgrow5 hat5 hlt5
                   have hB5 := below_row' ((below_more HBq.out _).drew) ((Hown.out.alloc _).drew) (Nat.le_refl _) hgrow5))
            have HB5 := Lib.hid hB5
            have hown6 : w5.ownsRow wo.heap.size 3 1 (.slice (some ⟨g5, 0, none⟩) (j + 1) c5) (j + 1) (levRow (xOf l bits m) (j + 1)) := by rw [Hst.out]; exact hown5
            have Hown6 := Lib.hid hown6
            clear hB5 hown5 hown6 hgrow5 hat5 hlt5
            go_wp2_with fail
            go_roundw
            case rel => exact ⟨j + 1, by omega, by go_num, Hown6.out, HB5.out⟩
            case measure => simp [intOf]; omega
          · obtain rfl : j = l.length := by omega
            obtain ⟨h, c, rfl⟩ := Joins.ownsRow_form hown (by omega)
            have hrow : ∀ j, j < l.length → wr.cell? ⟨h, j, none⟩ = some (.int .i64 (xOf l bits m j)) := fun j hj => by rw [hown.cellAt j (by omega), levRow_get hj]
            have hge := (hown.lt h rfl).1
            obtain ⟨vs, hv1, hv2⟩ := HL.out
            have hne : Value.ownBlock u9 ≠ some h := fun e => by have := (hv1.lt h e).2; omega
            have hv1' := hv1.kept (grown_of_below hBq none) (Classical.em _)
            have hv2' : ∀ i, i < m → ∃ h c : Nat, vs[i]? = some (.slice (some ⟨h, 0, none⟩) l.length c) ∧ Value.ownBlock u9 ≠ some h ∧ ∀ j, j < l.length → wr.cell? ⟨h, j, none⟩ = some (.int .i64 (xOf l bits i j)) := fun i hi => by
              obtain ⟨h, c, r1, r2, r3⟩ := hv2 i hi
              exact ⟨h, c, r1, r2, fun j hj => Stay.below hBq _ _ (r3 j hj)⟩
            have HV1 := Lib.hid hv1'
            have HV2 := Lib.hid hv2'
            have HNe := Lib.hid hne
            have HRow := Lib.hid hrow
            have HB6 := Lib.hid (below_trans HB.out hBq)
            clear hown hrow hge hv1 hv2 hv1' hv2' hne hBq HL
            go_wp2_with (at_builtin; refine wpList_append_lies _ rfl _ _ 71 rfl w0.heap.size 52 i0 _ 1 24 Try.underlying71 hi0 hz0 hz1 hz2 rfl (by omega) _ m vs rfl (HV1.out.alloc _) ⟨wr.heap.size, 0, none⟩ 1 1 [.slice (some ⟨h, 0, none⟩) l.length c] rfl rfl (World.news_of_block (cs := #[.slice (some ⟨h, 0, none⟩) l.length c]) (t := 52) (fr := (0, 0)) (heap_alloc_new wr _)) (by simp [Value.oneCell']) (by omega) (by unfold maxLen; omega) (by omega) (by have := HB6.out.size; simp; omega) _ rfl ?_)
            intro g6 c6 w6 hown6 hgrow6 hat6 hlt6
            have hL6 := LkS.push (by omega) HV1.out HV2.out HNe.out HRow.out (below_alloc (.cells #[.slice (some ⟨h, 0, none⟩) l.length c] 52)) (H := wr.heap.size + 1) (by simp) hown6 hgrow6 hat6
            have hB7 := below_row' (below_more HB6.out _) (HV1.out.alloc _) (Nat.le_refl _) hgrow6
            have HL6 := Lib.hid hL6
            have HB7 := Lib.hid hB7
            clear hown6 hgrow6 hat6 hlt6 hL6 hB7
            go_wp2_with fail
            go_roundw
            case rel => exact ⟨m + 1, by omega, by go_num, HL6.out, HB7.out⟩
            case measure => simp [intOf]; omega
      · obtain rfl : m = p.length := by omega
        have hs := Stay.below hB
        have Hl1 := Lib.hid (Hl0.out.stay hs)
        have Hp1 := Lib.hid (Hp0.out.stay hs)
        have Hlv := Lib.hid hL.leaks
        have HB1 := Lib.hid (below_trans HB0.out hB)
        have Hx := Lib.hid (xOf_in Hy.out bits)
        clear hs hL hB Hl0 Hp0 HB0 Hb0
        go_wp2_with fail
        refine (run42 _ _ _ l p (xOf l bits) _ Hl1.out Hy.out Hp1.out hM12 Hkp.out Hlv.out Hx.out).mono ?_
        rintro e w2 ⟨gr, cr, rfl, hr, hB2⟩
        have hxh : ∀ m j, j < l.length → xOf l bits m j ≤ hiOf l j := fun m j h => by rw [hiOf_get h]; exact (Hx.out m j h).2
        have hx0 : ∀ m j, j < l.length → 0 ≤ xOf l bits m j := fun m j h => by have := (Hx.out m j h).1; have := ck_bounds Hy.out h; omega
        have hG01 : ∀ j, j < l.length → 0 ≤ runF l (xOf l bits) (levelOf l) p p.length j ∧ runF l (xOf l bits) (levelOf l) p p.length j ≤ 1000 := fun j hj => by
          have := within_run Hy.out (x := xOf l bits) (f := levelOf l) p hx0 (within_begin Hy.out) p.length j hj
          have := ck_bounds Hy.out hj
          omega
        have hlb : ∀ j, j < l.length → lineTo l (p.length : Int) (runF l (xOf l bits) (levelOf l) p p.length) l.length ≤ runF l (xOf l bits) (levelOf l) p p.length j := fun j hj => line_below Hy.out (xOf l bits) rfl Hkp.out hxh hj
        have hlr := lineTo_range (M := (p.length : Int)) (G := runF l (xOf l bits) (levelOf l) p p.length) (fun j hj => (ck_bounds Hy.out hj).2.2.2.1) (fun j hj => (hG01 j hj).1) l.length (Nat.le_refl _)
        generalize runF l (xOf l bits) (levelOf l) p p.length = G at *
        have HG := Lib.hid hG01
        have Hlb := Lib.hid hlb
        have Hlr := Lib.hid hlr
        have Hr := Lib.hid hr
        have Hl2 := Lib.hid (Hl1.out.stay (Stay.below hB2))
        have HB2 := Lib.hid (below_trans HB1.out hB2)
        obtain ⟨q0, hq0, hv0, hv1, hv2⟩ := info_parts info24p
        clear hxh hx0 hG01 hlb hlr hr hB2 Hl1 HB1 Hlv Hp1 Hx
        go_wp2_with fail
        go_loopw [17, 15, 16] (fun i s v wr => ∃ j : Nat, j ≤ l.length ∧ i = .int .i64 j ∧ s = .int .i64 (lineTo l (p.length : Int) G j) ∧ wr.ownsRow w2.heap.size 24 4 v j (cellsB (sBars G j)) ∧ Below w2.heap.size w2 wr) (fun i _ _ _ => l.length - (intOf i).toNat)
        case atStart => exact ⟨0, by omega, rfl, rfl, ⟨rfl, .inl ⟨rfl, rfl⟩⟩, Below.refl _ _⟩
        case round =>
          obtain ⟨j, hj, rfl, rfl, hown, hB⟩ := hrel
          by_cases hlt : j < l.length
          · as_aux_lemma =>
            have hj1 : (j : Int) < (l.length : Int) := by omega
            have hj0 : (0 : Int) ≤ (j : Int) := by omega
            have hs := Stay.below hB
            have c0 := hs _ _ (Hr.out j hlt)
            obtain ⟨b', off', rfl, hck⟩ : ∃ b' off', va = some ⟨b', off', none⟩ ∧ CkAt wr b' (off' + j * 5) l[j] := by
              obtain ⟨a', c', hv', hm'⟩ := Hl2.out.stay hs
              injection hv' with hv' _ _
              obtain ⟨b', off', hbo, hc⟩ := hm' j l[j] (List.getElem?_eq_getElem hlt)
              exact ⟨b', off', hv'.trans hbo, hc⟩
            obtain ⟨_, _, d2, _⟩ := hck
            rw [← lineOf_get hlt] at d2
            have Hst := Lib.hid (sBar_step G j)
            have Hown := Lib.hid hown
            have HB := Lib.hid hB
            have hnx : lineTo l (p.length : Int) G (j + 1) = min (lineTo l (p.length : Int) G j) (if 0 < (p.length : Int) then lineOf l j else G j) := rfl
            have Hnx := Lib.hid hnx
            clear hs hown hB hnx
            generalize lineTo l (p.length : Int) G j = ln at *
            by_cases hpp : 0 < (p.length : Int)
            · have Hn : Hid (lineTo l (p.length : Int) G (j + 1) = min ln (lineOf l j)) := by show _ = _; rw [Hnx.out, if_pos hpp]
              clear Hnx
              have hd : decide (0 < p.length) = true := by simpa using hpp
              go_wp2_with (at_builtin; refine wpList_append_lies _ rfl _ _ 58 rfl w2.heap.size 24 q0 _ 4 32 Try.underlying58 hq0 hv0 hv1 hv2 rfl (by omega) _ j (cellsB (sBars G j)) rfl (Hown.out.alloc _) ⟨wr.heap.size, 0, none⟩ 1 1 [.int .i64 0, .int .i64 0, .int .i64 (G j), .int .i64 0] rfl rfl (World.news_of_block (cs := #[.int .i64 0, .int .i64 0, .int .i64 (G j), .int .i64 0]) (t := 24) (fr := (0, 0)) (heap_alloc_new wr _)) (by simp [Value.oneCell']) (by omega) (by unfold maxLen; omega) (by omega) (by have := HB.out.size; simp; omega) _ rfl ?_)
              intro g5 c5 w5 hown5 hgrow5 _ hlt5
              have HB5 := Lib.hid (below_row' (below_more HB.out _) (Hown.out.alloc _) (Nat.le_refl _) hgrow5)
              have Hown5 := Lib.hid hown5
              clear hown5 hgrow5
              go_wp2_with fail
              go_roundw
              case rel => exact ⟨j + 1, by omega, by go_num, by rw [Hn.out], by rw [← Hst.out]; exact Hown5.out, HB5.out⟩
              case measure => simp [intOf]; omega
            · have Hn : Hid (lineTo l (p.length : Int) G (j + 1) = min ln (G j)) := by show _ = _; rw [Hnx.out, if_neg hpp]
              clear Hnx
              have hd : decide (0 < p.length) = false := by simpa using hpp
              go_wp2_with (at_builtin; refine wpList_append_lies _ rfl _ _ 58 rfl w2.heap.size 24 q0 _ 4 32 Try.underlying58 hq0 hv0 hv1 hv2 rfl (by omega) _ j (cellsB (sBars G j)) rfl (Hown.out.alloc _) ⟨wr.heap.size, 0, none⟩ 1 1 [.int .i64 0, .int .i64 0, .int .i64 (G j), .int .i64 0] rfl rfl (World.news_of_block (cs := #[.int .i64 0, .int .i64 0, .int .i64 (G j), .int .i64 0]) (t := 24) (fr := (0, 0)) (heap_alloc_new wr _)) (by simp [Value.oneCell']) (by omega) (by unfold maxLen; omega) (by omega) (by have := HB.out.size; simp; omega) _ rfl ?_)
              intro g5 c5 w5 hown5 hgrow5 _ hlt5
              have HB5 := Lib.hid (below_row' (below_more HB.out _) (Hown.out.alloc _) (Nat.le_refl _) hgrow5)
              have Hown5 := Lib.hid hown5
              clear hown5 hgrow5
              go_wp2_with fail
              go_roundw
              case rel => exact ⟨j + 1, by omega, by go_num, by rw [Hn.out], by rw [← Hst.out]; exact Hown5.out, HB5.out⟩
              case measure => simp [intOf]; omega
          · obtain rfl : j = l.length := by omega
            obtain ⟨go, co, rfl⟩ := Joins.ownsRow_form hown (by omega)
            obtain ⟨g1, g2⟩ := Hlr.out
            generalize lineTo l (p.length : Int) G l.length = ln at *
            have hbars : ∀ y ∈ sBars G l.length, barB y = true := fun y hy => by
              obtain ⟨j, hj, rfl⟩ := sBars_mem hy
              exact sBar_ok (HG.out j hj).1 (HG.out j hj).2
            have hreach : ∀ y ∈ sBars G l.length, belowB (sMark ln) y = false := fun y hy => by
              obtain ⟨j, hj, rfl⟩ := sBars_mem hy
              exact sBar_reach g1 g2 (Hlb.out j hj) (HG.out j hj).2
            have hz := strict_promise (sMark_ok g1 g2).2 l1 (by omega) (sBars_length G l.length) hbars hreach
            have hgo := hown.lt go rfl
            have hbrs := brs_of_own (ms := sBars G l.length) (by rw [sBars_length]) hown
            have Hz := Lib.hid hz
            have Hbars := Lib.hid hbars
            have Hown := Lib.hid hown
            have Hbrs := Lib.hid hbrs
            have HBr := Lib.hid hB
            have hlen := sBars_length G l.length
            have Hlen := Lib.hid hlen
            clear hz hbars hreach hown hbrs hB hlen Hlb HG Hlr
            go_wp2_with fail
            refine (to36 _ _ _).mono ?_
            rintro e w5 ⟨rfl, hB5⟩
            have hs5 := hB5.size
            have hMk := mk_new' w5 (sMark ln)
            have HB6 := Lib.hid (((below_more (below_trans HBr.out hB5) (.cells #[.int .i64 0, .int .i64 0, .int .i64 0, .int .i64 0, .int .i64 ln, .int .i64 1000, .int .i64 0, .int .i64 0] 62)).alloc (by have := HBr.out.size; simp; omega) (.cells #[.int .i64 0, .int .i64 1, .int .i64 1, .int .i64 1, .int .i64 0, .int .i64 1] 39)))
            have hB7 : Below wr.heap.size wr ((w5.alloc (.cells #[.int .i64 0, .int .i64 0, .int .i64 0, .int .i64 0, .int .i64 ln, .int .i64 1000, .int .i64 0, .int .i64 0] 62)).alloc (.cells #[.int .i64 0, .int .i64 1, .int .i64 1, .int .i64 1, .int .i64 0, .int .i64 1] 39)) :=
              (below_more hB5 _).alloc (by simp; omega) _
            have HMk := Lib.hid (hMk.kept ((below_alloc (w := w5.alloc (.cells #[.int .i64 0, .int .i64 0, .int .i64 0, .int .i64 0, .int .i64 ln, .int .i64 1000, .int .i64 0, .int .i64 0] 62)) (.cells #[.int .i64 0, .int .i64 1, .int .i64 1, .int .i64 1, .int .i64 0, .int .i64 1] 39)).block _ hMk.lt))
            have hKR : KR w2 (w5.heap.size + 1) ((w5.alloc (.cells #[.int .i64 0, .int .i64 0, .int .i64 0, .int .i64 0, .int .i64 ln, .int .i64 1000, .int .i64 0, .int .i64 0] 62)).alloc (.cells #[.int .i64 0, .int .i64 1, .int .i64 1, .int .i64 1, .int .i64 0, .int .i64 1] 39)) :=
              ⟨by go_simp, by go_simp, by go_simp, by go_simp, by go_simp, by go_simp, HB6.out⟩
            have HKR := Lib.hid hKR
            have HB7 := Lib.hid hB7
            clear hMk hKR hB7 hB5 HB6
            go_upto_region 29 with fail
            obtain ⟨w6, hw6⟩ : ∃ W, (w5.alloc (.cells #[.int .i64 0, .int .i64 0, .int .i64 0, .int .i64 0, .int .i64 ln, .int .i64 1000, .int .i64 0, .int .i64 0] 62)).alloc (.cells #[.int .i64 0, .int .i64 1, .int .i64 1, .int .i64 1, .int .i64 0, .int .i64 1] 39) = W := ⟨_, rfl⟩
            rw [hw6] at HMk HKR HB7 ⊢
            clear hw6
            have hgo5 : go < w5.heap.size := by omega
            generalize w5.heap.size = Mb at *
            generalize hBx : Mb + 1 = Bx at *
            have hgB : go < Bx := by omega
            clear hBx hs5
            have Hbrs6 := Lib.hid (Hbrs.out.below HB7.out)
            have Hown6 := Lib.hid (Hown.out.kept (grown_of_below HB7.out none) (Classical.em _))
            obtain ⟨r0, r1, r2, r3, r4, r5, _⟩ := HKR.out
            clear Hbrs Hown HBr HB7
            go_wp2_with fail
            refine (promise_ex _ _ [sMark ln] (sBars G l.length) l.length strictR _ (marks_one' HMk.out 1) (by simp) Hbrs6.out (by rw [Hlen.out]; omega) Hz.out).mono ?_
            rintro e w7 ⟨rfl, hB7⟩
            have HKR7 := Lib.hid (HKR.out.below hB7)
            have HMk7 := Lib.hid (HMk.out.kept (hB7.block _ HMk.out.lt))
            have Hown7 := Lib.hid (Hown6.out.kept (grown_of_below hB7 none) (Classical.em _))
            clear hB7 HKR HMk Hbrs6 Hown6 r0 r1 r2 r3 r4 r5
            by_cases hz0 : ln = 0
            · have hz1 : (ln == 0) = true := by simpa using hz0
              go_wp2_with fail
              refine (packed_is _).mono ?_
              rintro e w8 ⟨rfl, hB8⟩
              have HB9 := Lib.hid (below_trans HB2.out (below_trans HKR7.out.2.2.2.2.2.2 hB8))
              clear hB8
              go_wp2_with fail
              go_ret
              exact ⟨rfl, HB9.out⟩
            · have hz1 : (ln == 0) = false := beq_eq_false_iff_ne.2 hz0
              have hz2 := strict_none (sMark_ok g1 g2).2 l1 (by omega) (sBars_length G l.length) Hbars.out (sBar_ok (g := ln - 1) (by omega) (by omega)) (sBar_below g1 g2)
              have Hz2 := Lib.hid hz2
              have hwl : IntKind.i64.wrap ((l.length : Int) + 1) = ((l.length + 1 : Nat) : Int) := by rw [IntWalk.i64_in _ (by omega)]; omega
              have hws : IntKind.i64.wrap (ln - 1) = ln - 1 := IntWalk.i64_in _ (by omega)
              have hBx7 := HKR7.out.lt
              have hMb7 := HMk7.out.lt
              clear hz2
              go_upto_region 34 with fail
              go_region_held3 (fun w' => w'.cell? ⟨Bx, 0, none⟩ = some (.int .i64 0) ∧ w'.cell? ⟨Bx, 1, none⟩ = some (.int .i64 1) ∧ w'.cell? ⟨Bx, 2, none⟩ = some (.int .i64 1) ∧ w'.cell? ⟨Bx, 3, none⟩ = some (.int .i64 1) ∧ w'.cell? ⟨Bx, 4, none⟩ = some (.int .i64 0) ∧ w'.cell? ⟨Bx, 5, none⟩ = some (.int .i64 1) ∧ Below w2.heap.size w2 w')
                (first
                  | with_reducible exact KR.drew HKR7.out
                  | with_reducible exact KR.drew (KR.below HKR7.out (below_alloc _))
                  | with_reducible exact hKR8
                  | with_reducible exact KR.below hKR8 hB9)
                (first
                  | (refine step_append_lies _ (by rfl) _ _ _ (by rfl) w2.heap.size 24 q0 _ 4 32 Try.underlying58 hq0 hv0 hv1 hv2 rfl (by omega) _ l.length (cellsB (sBars G l.length)) (by rfl) ((Hown7.out.alloc _).drew) ⟨w7.heap.size, 0, none⟩ 1 1 [.int .i64 0, .int .i64 0, .int .i64 (ln - 1), .int .i64 0] (by rfl) (by rfl) (World.news_of_block (cs := #[.int .i64 0, .int .i64 0, .int .i64 (ln - 1), .int .i64 0]) (t := 24) (fr := (0, 0)) (heap_alloc_new w7 _)) (by simp [Value.oneCell']) (by omega) (by unfold maxLen; omega) (by omega) (by have := HKR7.out.2.2.2.2.2.2.size; simp; omega) (w7.heap.size + 1) (by simp) ?_
                     intro g8 c8 w8 hown8 hgrow8 hat8 hlt8
                     have hB8 := below_row' ((below_more HKR7.out.2.2.2.2.2.2 _).drew) ((Hown7.out.alloc _).drew) (Nat.le_refl _) hgrow8
                     have hKR8 := KR.kept HKR7.out ((hgrow8.block Bx (by simp; omega) (by simp [Value.ownBlock]; omega)).trans (Below.heap_alloc w7 _ Bx hBx7)) hB8
                     have hMk8 := HMk7.out.kept ((hgrow8.block Mb (by simp; omega) (by simp [Value.ownBlock]; omega)).trans (Below.heap_alloc w7 _ Mb hMb7)))
                  | (go_at_call 37
                     refine (promise_ex _ _ [sMark ln] (sBars G l.length ++ [sBar (ln - 1)]) ((l.length + 1 : Nat) : Int) strictR _ ?_ (by simp) ?_ ?_ Hz2.out).mono ?_
                     · exact marks_one' hMk8 1
                     · have := brs_of_own (ms := sBars G l.length ++ [sBar (ln - 1)]) (n := l.length + 1) (by simp [sBars_length]) (by rw [cellsB_append]; exact hown8)
                       exact this
                     · simp [sBars_length]; omega
                     rintro e w9 ⟨rfl, hB9⟩))
              have HB10 := Lib.hid (below_trans HB2.out (below_trans hB8 hB9))
              clear hB9 hKR8 hMk8 hB8 hown8 hgrow8 hat8 hlt8
              go_wp2_with fail
              refine (packed_is _).mono ?_
              rintro e w8 ⟨rfl, hB8⟩
              have HB11 := Lib.hid (below_trans HB10.out hB8)
              clear hB8
              go_wp2_with fail
              go_ret
              exact ⟨rfl, HB11.out⟩

end Go.Proofs.Ythpllmefbhjmmaa
