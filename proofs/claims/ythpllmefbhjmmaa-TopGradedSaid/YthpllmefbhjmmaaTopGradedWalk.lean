/-
  The walk of 'TopGraded': it answers true, for any baskets, rule and number that fit; all else stays as it was.
-/
import Derived.Test.YthpllmefbhjmmaaTopGradedLaw
import Derived.Test.YthpllmefbhjmmaaPacked07
import Derived.Test.YthpllmefbhjmmaaOddsLaw
import Derived.Test.YthpllmefbhjmmaaBarrelRows
import Derived.Test.YthpllmefbhjmmaaRuled
import Derived.Deep.DeepCutAuto
import Derived.Deep.AppendLies
import Derived.BigQuiet
namespace Go.Proofs.Ythpllmefbhjmmaa
open Go.RowKit Go.Maps Plain
attribute [local go_sem] Oper.semAt_some

/-- The law's box of the rule, its baskets; all else as it was. -/
def TgS (w : World) (r : Rl) (b off cap : Nat) (l : List Sp) (W : World) : Prop := RuleAt W w.heap.size r ∧ SpsAt W (.slice (some ⟨b, off, none⟩) l.length cap) l ∧ Below w.heap.size w W
theorem TgS.lt {w : World} {r : Rl} {b off cap : Nat} {l : List Sp} {W : World} (h : TgS w r b off cap l W) : w.heap.size < W.heap.size := World.block_lt_of_cell? W _ h.1.1
theorem TgS.below {w : World} {r : Rl} {b off cap : Nat} {l : List Sp} {W W' : World} (h : TgS w r b off cap l W) (hB : Below W.heap.size W W') : TgS w r b off cap l W' :=
  ⟨h.1.below hB h.lt, h.2.1.below hB, below_trans h.2.2 hB⟩
theorem TgS.start {w : World} (r : Rl) {b off cap : Nat} {l : List Sp} (h : SpsAt w (.slice (some ⟨b, off, none⟩) l.length cap) l) :
    TgS w r b off cap l (w.alloc (.cells #[.int .i64 r.g, .int .i64 r.po, .int .i64 r.pi, .int .i64 r.b, .int .i64 r.fo, .int .i64 r.fi] 39)) :=
  ⟨by unfold RuleAt; go_simp, h.below (below_alloc _), below_alloc _⟩

/-- A row of numbers. -/
def LotsAt (W : World) (g : Nat) (o : List Nat) : Prop := ∀ i n, o[i]? = some n → W.cell? ⟨g, i, none⟩ = some (.int .i64 (n : Nat))
theorem LotsAt.below {W W' : World} {g : Nat} {o : List Nat} (h : LotsAt W g o) (hB : Below W.heap.size W W') : LotsAt W' g o := fun i n hi => by
  have := h i n hi
  exact (World.cell?_of_block (a := ⟨g, i, none⟩) (hB.block _ (World.block_lt_of_cell? W _ this))).trans this

theorem info24' : (Try.prog.info? 24).map (fun i => (i.zero, i.size, i.bytes)) = some (some (.agg #[.int .i64 0, .int .i64 0, .int .i64 0, .int .i64 0]), 4, 32) := by kernel_rfl
theorem row_step (j : Nat) (y : Br) : cellsB (List.replicate j y) ++ [.int .i64 y.b0, .int .i64 y.b1, .int .i64 y.b2, .int .i64 y.b3] = cellsB (List.replicate (j + 1) y) := by
  rw [List.replicate_succ', cellsB_append]; rfl
theorem mark_new (W : World) (m : Mk) : MarksAt (W.alloc (.cells #[.int .i64 m.s0.lo, .int .i64 m.s0.hi, .int .i64 m.s1.lo, .int .i64 m.s1.hi, .int .i64 m.s2.lo, .int .i64 m.s2.hi, .int .i64 m.s3.lo, .int .i64 m.s3.hi] 62)) (.slice (some ⟨W.heap.size, 0, none⟩) 1 1) [m] := by
  refine ⟨_, 1, rfl, fun i m' hi => ?_⟩
  cases i with
  | zero =>
    simp only [List.getElem?_cons_zero, Option.some.injEq] at hi
    subst hi
    exact ⟨_, 0, rfl, by unfold MkAt; exact ⟨by go_simp, by go_simp, by go_simp, by go_simp, by go_simp, by go_simp, by go_simp, by go_simp⟩⟩
  | succ i => simp at hi
theorem own_start (W : World) : W.ownsRow W.heap.size 24 4 (.slice none 0 0) 0 (cellsB (List.replicate 0 (gBar 0))) := ⟨rfl, .inl ⟨rfl, rfl⟩⟩
/-- A row that is not empty lies in a block. -/
theorem own_some {W : World} {base n : Nat} {v : Value} {y : Br} (h : W.ownsRow base 24 4 v n (cellsB (List.replicate n y))) (hn : 0 < n) : ∃ g c, v = .slice (some ⟨g, 0, none⟩) n c := by
  rcases h.2 with ⟨_, hx⟩ | ⟨g, c, _, hv, _⟩
  · omega
  · exact ⟨g, c, hv⟩

set_option maxRecDepth 100000 in
set_option maxHeartbeats 1600000 in
theorem law7_bad (v : Value) (l : List Sp) (r : Rl) (n : Int) (w : World) (hl : SpsAt w v l) (hlen : l.length ≤ 140737488351232) (h : loadsB l = false) :
    Calls Try.prog 7 #[v, rlV r, .int .i64 n] w fun e w' => e = .returned (.bool true) ∧ Below w.heap.size w w' := by
  have H := Lib.hid h
  have hl2 := hl.below (below_alloc (w := w) (.cells #[.int .i64 r.g, .int .i64 r.po, .int .i64 r.pi, .int .i64 r.b, .int .i64 r.fo, .int .i64 r.fi] 39))
  have Hl := Lib.hid hl2
  have HB := Lib.hid (below_alloc (w := w) (.cells #[.int .i64 r.g, .int .i64 r.po, .int .i64 r.pi, .int .i64 r.b, .int .i64 r.fo, .int .i64 r.fi] 39))
  clear h hl hl2
  obtain ⟨rg, po, pi, rb, fo, fi⟩ := r
  go_enter Try.func7, Try.ntmps7
  go_wp2_with fail
  refine (lots_bad v l _ Hl.out hlen H.out).mono ?_
  rintro e w1 ⟨rfl, hB1⟩
  have HB1 := Lib.hid (below_trans HB.out hB1)
  clear hB1
  go_wp2_with fail
  refine (packed_is _).mono ?_
  rintro e w2 ⟨rfl, hB2⟩
  have HB2 := Lib.hid (below_trans HB1.out hB2)
  clear hB2
  go_wp2_with fail
  go_ret
  exact ⟨rfl, HB2.out⟩

set_option maxRecDepth 100000 in
set_option maxHeartbeats 40000000 in
theorem law7_good (b off cap : Nat) (l : List Sp) (r : Rl) (n : Int) (w : World) (hl : SpsAt w (.slice (some ⟨b, off, none⟩) l.length cap) l) (hcap : l.length ≤ cap) (h : loadsB l = true) (nl : -9223372036854775808 ≤ n) (nu : n ≤ 9223372036854775807) :
    Calls Try.prog 7 #[.slice (some ⟨b, off, none⟩) l.length cap, rlV r, .int .i64 n] w fun e w' => e = .returned (.bool true) ∧ Below w.heap.size w w' := by
  have h' := h
  unfold loadsB at h'
  rw [Bool.and_eq_true] at h'
  obtain ⟨l1, l2⟩ := inB_true h'.1
  have hsp : ∀ s ∈ l, spanB s = true := List.all_eq_true.1 h'.2
  obtain ⟨p, hp⟩ : ∃ p, l.length = p + 1 := ⟨l.length - 1, by omega⟩
  have hok := lots_ok hsp p (by omega)
  rw [← hp] at hok
  have HOK := Lib.hid hok
  have HS := Lib.hid (TgS.start r hl)
  have Hsp := Lib.hid hsp
  have H := Lib.hid h
  obtain ⟨rg, po, pi, rb, fo, fi⟩ := r
  clear h h' hl hok hsp hp
  go_enter Try.func7, Try.ntmps7
  go_wp2_with fail
  refine (lots_good b off cap l _ HS.out.2.1 hcap H.out).mono ?_
  rintro e w1 ⟨g, rfl, hg, hB1⟩
  have HS1 := Lib.hid (HS.out.below hB1)
  obtain ⟨o, ho⟩ : ∃ o, lotsTo l l.length = o := ⟨_, rfl⟩
  rw [ho] at hg
  have HG1 : Hid (LotsAt w1 g o) := hg
  have Hok : Hid (LotsOk l o l.length) := by show LotsOk _ _ _; rw [← ho]; exact HOK.out
  rw [ho]
  clear hB1 HS hg HOK ho
  have ho1 : o.length ≤ l.length := Hok.out.1
  have ho0 : 0 < o.length := (List.getElem?_eq_some_iff.1 Hok.out.2.1).1
  have hne : ((o.length : Int) == 0) = false := beq_eq_false_iff_ne.2 (by omega)
  go_wp2_with fail
  refine (areLots_good b off cap l g o.length o _ HS1.out.2.1 hcap H.out HG1.out Hok.out).mono ?_
  rintro e w2 ⟨rfl, hB2⟩
  have HS2 := Lib.hid (HS1.out.below hB2)
  have HG2 := Lib.hid (HG1.out.below hB2)
  clear hB2 HS1 HG1
  go_wp2_with fail
  refine (mod_is n o.length _ nl nu (by omega) (by omega)).mono ?_
  rintro e w3 ⟨rfl, rfl⟩
  have t0 := Int.emod_nonneg n (show (o.length : Int) ≠ 0 by omega)
  have t1 := Int.emod_lt_of_pos n (show 0 < (o.length : Int) by omega)
  obtain ⟨k, hk⟩ : ∃ k : Nat, n % (o.length : Int) = k := ⟨_, (Int.toNat_of_nonneg t0).symm⟩
  rw [hk] at t0 t1 ⊢
  have hko : k < o.length := by omega
  obtain ⟨x, hx⟩ : ∃ x, o[k]? = some x := ⟨_, List.getElem?_eq_getElem hko⟩
  obtain ⟨a1, a2, a3⟩ := Hok.out.2.2 k x hx
  have cx := HG2.out k x hx
  have Ha := Lib.hid a3
  have Hx := Lib.hid hx
  obtain ⟨en, he⟩ : ∃ en, lotEnd o l.length k = en := ⟨_, rfl⟩
  rw [he] at a1 a2
  have Ha : Hid (alikeB (part l x en) = true) := by show _ = _; rw [← he]; exact a3
  have He := Lib.hid he
  clear a3 hx hk he
  go_upto_if 72 with fail
  go_cut [12] (fun s12 wx => s12 = .int .i64 en ∧ wx = w2)
  case first => as_aux_lemma =>
    have hn0 : (0 : Int) ≤ (k : Int) := by omega
    by_cases hlt2 : k + 1 < o.length
    · have hn2 : (k : Int) + 1 < (o.length : Int) := by omega
      have hn3 : (0 : Int) ≤ (k : Int) + 1 := by omega
      have hd : decide ((k : Int) + 1 < (o.length : Int)) = true := by simpa using hn2
      have he2 : o[k + 1]? = some en := by
        rw [← He.out]; unfold lotEnd; rw [List.getD_eq_getElem?_getD, List.getElem?_eq_getElem hlt2]; rfl
      have c1 := HG2.out (k + 1) en he2
      clear he2
      go_wp2_with fail
      go_meet
      case rel => exact ⟨rfl, rfl⟩
    · have hd : decide ((k : Int) + 1 < (o.length : Int)) = false := by simp; omega
      have he : lotEnd o l.length k = l.length := by unfold lotEnd; rw [List.getD_eq_getElem?_getD, List.getElem?_eq_none (by omega)]; rfl
      have He2 : Hid (l.length = en) := by show _ = _; rw [← He.out, he]
      clear he
      go_wp2_with fail
      go_meet
      case rel => exact ⟨by rw [He2.out], rfl⟩
  case rest =>
    obtain ⟨rfl, rfl⟩ := hcut
    have HL : Hid (∀ s ∈ part l x en, spanB s = true) := fun s hs => Hsp.out s (part_mem hs)
    have Hgr := Lib.hid (grade_holds Ha.out HL.out)
    obtain ⟨g0, g1, _⟩ := Hgr.out
    have hpl := part_length (l := l) (a := x) (e := en) a2
    have iw := inB_mk (n := (x : Int)) (lo := 0) (hi := (l.length : Int) - 1) ⟨by omega, by omega⟩
    have iv := inB_mk (n := (en : Int)) (lo := (x : Int) + 1) (hi := (l.length : Int)) ⟨by omega, by omega⟩
    have Iw := Lib.hid iw
    have Iv := Lib.hid iv
    have Hpl := Lib.hid hpl
    clear iw iv hpl cx
    go_wp2_with fail
    refine (in_is _ _ _ _ Iw.out).mono ?_
    rintro e w3 ⟨rfl, rfl⟩
    go_wp2_with fail
    refine (in_is _ _ _ _ Iv.out).mono ?_
    rintro e w3 ⟨rfl, rfl⟩
    go_wp2_with fail
    go_loop [14, 13] (fun i q => ∃ j : Nat, j ≤ en - x ∧ i = .int .i64 ((x + j : Nat) : Int) ∧ q = .int .i64 (mxL ((part l x en).take j) 0)) (fun i _ => en - (intOf i).toNat)
    case atStart => exact ⟨0, by omega, rfl, rfl⟩
    case round =>
      obtain ⟨j, hj, rfl, rfl⟩ := hrel
      by_cases hlt : j < en - x
      · have hj1 : ((x + j : Nat) : Int) < (en : Int) := by omega
        have hj2 : ((x + j : Nat) : Int) < (l.length : Int) := by omega
        have hj0 : (0 : Int) ≤ ((x + j : Nat) : Int) := by omega
        have hxj : x + j < l.length := by omega
        obtain ⟨b', off', hbo, d0, d1⟩ : ∃ b' off', some (⟨b, off, none⟩ : Addr) = some ⟨b', off', none⟩ ∧ wc.cell? ⟨b', off' + (x + j) * 2, none⟩ = some (.int .i64 l[x + j].lo) ∧ wc.cell? ⟨b', off' + (x + j) * 2 + 1, none⟩ = some (.int .i64 l[x + j].hi) := by
          obtain ⟨a', c', hv', hm'⟩ := HS2.out.2.1
          injection hv' with hv' _ _
          obtain ⟨b', off', hbo, hc⟩ := hm' (x + j) l[x + j] (List.getElem?_eq_getElem hxj)
          exact ⟨b', off', hv'.trans hbo, hc⟩
        simp only [Option.some.injEq, Addr.mk.injEq, and_true] at hbo
        obtain ⟨e1, e2⟩ := hbo
        subst e1; subst e2
        have hmx := mxL_snoc (l := part l x en) (x := 0) (k := j) (by rw [Hpl.out]; exact hlt)
        have hgt : (part l x en)[j]'(by rw [Hpl.out]; exact hlt) = l[x + j] := by
          have := part_get (l := l) (a := x) (e := en) (i := j) hlt
          rw [List.getElem?_eq_getElem (by rw [Hpl.out]; exact hlt), List.getElem?_eq_getElem hxj] at this
          injection this
        rw [hgt] at hmx
        have Hmx := Lib.hid hmx
        clear hmx hgt d1
        generalize l[x + j] = s at *
        generalize mxL ((part l x en).take j) 0 = q at *
        generalize hxj' : x + j = xj at *
        go_wp2_with fail
        go_round
        case rel => exact ⟨j + 1, by omega, by rw [← hxj']; go_num, by rw [Hmx.out]⟩
        case measure => simp [intOf]; omega
      · obtain rfl : j = en - x := by omega
        have e1 : ((x + (en - x) : Nat) : Int) = (en : Int) := by omega
        rw [e1, List.take_of_length_le (by rw [Hpl.out]; omega)]
        clear e1
        go_wp2_with fail
        have HS2' := Lib.hid HS2.out
        obtain ⟨G, hG⟩ : ∃ G, mxL (part l x en) 0 = G := ⟨_, rfl⟩
        rw [hG]
        have Hg2 : Hid (0 ≤ G ∧ G ≤ 1000 ∧ ∀ s ∈ part l x en, s.lo ≤ G ∧ G ≤ s.hi) := by show _ ∧ _; rw [← hG]; exact Hgr.out
        rw [hG] at g0 g1
        obtain ⟨N, hN⟩ : ∃ N, en - x = N := ⟨_, rfl⟩
        have hN1 : 1 ≤ N := by omega
        have hN2 : N ≤ 40 := by omega
        have hxn : (x : Int) + N = en := by omega
        have HN := Lib.hid hN
        obtain ⟨i0, hi0, hz0, hz1, hz2⟩ := info_parts info24'
        clear hj hG hN Hgr HG2
        go_loopw [16, 15] (fun i v wr => ∃ j : Nat, j ≤ N ∧ i = .int .i64 ((x + j : Nat) : Int) ∧ wr.ownsRow wc.heap.size 24 4 v j (cellsB (List.replicate j (gBar G))) ∧ Below wc.heap.size wc wr) (fun i _ _ => en - (intOf i).toNat)
        case atStart => exact ⟨0, by omega, rfl, own_start _, Below.refl _ _⟩
        case round =>
          obtain ⟨j, hj, rfl, hown, hB⟩ := hrel
          by_cases hlt : j < N
          · have hj1 : ((x + j : Nat) : Int) < (en : Int) := by omega
            have hj2 : ((x + j : Nat) : Int) < (l.length : Int) := by omega
            have hj0 : (0 : Int) ≤ ((x + j : Nat) : Int) := by omega
            have hxj : x + j < l.length := by omega
            obtain ⟨b', off', hbo, d0, d1⟩ : ∃ b' off', some (⟨b, off, none⟩ : Addr) = some ⟨b', off', none⟩ ∧ wr.cell? ⟨b', off' + (x + j) * 2, none⟩ = some (.int .i64 l[x + j].lo) ∧ wr.cell? ⟨b', off' + (x + j) * 2 + 1, none⟩ = some (.int .i64 l[x + j].hi) := by
              obtain ⟨a', c', hv', hm'⟩ := (HS2.out.below hB).2.1
              injection hv' with hv' _ _
              obtain ⟨b', off', hbo, hc⟩ := hm' (x + j) l[x + j] (List.getElem?_eq_getElem hxj)
              exact ⟨b', off', hv'.trans hbo, hc⟩
            simp only [Option.some.injEq, Addr.mk.injEq, and_true] at hbo
            obtain ⟨e1, e2⟩ := hbo
            subst e1; subst e2
            have hgt : (part l x en)[j]? = some l[x + j] := by
              rw [part_get (l := l) (a := x) (e := en) (i := j) (by have := HN.out; omega), List.getElem?_eq_getElem hxj]
            have hin := Hg2.out.2.2 _ (List.mem_of_getElem? hgt)
            have hh := inB_mk hin
            have Hh := Lib.hid hh
            have Hown := Lib.hid hown
            have HB := Lib.hid hB
            have Hst := Lib.hid (row_step j (gBar G))
            clear hgt hin hh hown hB
            generalize l[x + j] = s at *
            generalize hxj' : x + j = xj at *
            go_wp2_with fail
            refine (holds_is s G _ Hh.out).mono ?_
            rintro e w4 ⟨rfl, hB4⟩
            have hB5 := below_trans HB.out hB4
            have Hown4 := Lib.hid (Hown.out.kept (grown_of_below hB4 none) (Classical.em _))
            have HB5 := Lib.hid hB5
            clear hB4 hB5 Hown HB
            go_wp2_with (at_builtin; refine wpList_append_lies _ rfl _ _ 58 rfl wc.heap.size 24 i0 _ 4 32 Try.underlying58 hi0 hz0 hz1 hz2 rfl (by omega) _ j (cellsB (List.replicate j (gBar G))) rfl (Hown4.out.alloc _) ⟨w4.heap.size, 0, none⟩ 1 1 [.int .i64 G, .int .i64 0, .int .i64 0, .int .i64 0] rfl rfl (World.news_of_block (cs := #[.int .i64 G, .int .i64 0, .int .i64 0, .int .i64 0]) (t := 24) (fr := (0, 0)) (heap_alloc_new w4 _)) (by simp [Value.oneCell']) (by omega) (by unfold maxLen; omega) (by omega) (by have := HB5.out.size; simp; omega) _ rfl ?_)
            intro g2 c2 w5 hown5 hgrow _ hlt5
            have hB6 := below_row' (HB5.out.alloc HB5.out.size _) (Hown4.out.alloc _) (Nat.le_refl _) hgrow
            have Hown5 := Lib.hid hown5
            have HB6 := Lib.hid hB6
            clear hown5 hgrow hB6
            go_wp2_with fail
            go_roundw
            case rel => exact ⟨j + 1, by omega, by rw [← hxj']; go_num, by rw [← Hst.out]; exact Hown5.out, HB6.out⟩
            case measure => simp [intOf]; omega
          · obtain rfl : j = N := by omega
            have e1 : ((x + j : Nat) : Int) = (en : Int) := by omega
            rw [e1]
            clear e1
            obtain ⟨g2, c2, rfl⟩ := own_some hown (by omega)
            have hbrs := brs_of_own (ms := List.replicate j (gBar G)) (by simp) hown
            have HBR := Lib.hid hbrs
            have HS3 := Lib.hid (HS2.out.below hB)
            clear hown hbrs hB HS2'
            go_wp2_with fail
            refine (to36 _ _ _).mono ?_
            rintro e w5 ⟨rfl, hB5⟩
            have hM := mark_new w5 (gMark G)
            have HS4 := Lib.hid ((HS3.out.below hB5).below (below_alloc (.cells #[.int .i64 G, .int .i64 G, .int .i64 0, .int .i64 0, .int .i64 0, .int .i64 0, .int .i64 0, .int .i64 0] 62)))
            have HBR2 := Lib.hid ((HBR.out.below hB5).below (below_alloc (.cells #[.int .i64 G, .int .i64 G, .int .i64 0, .int .i64 0, .int .i64 0, .int .i64 0, .int .i64 0, .int .i64 0] 62)))
            have HM := Lib.hid hM
            have hq : BrAt (w5.alloc (.cells #[.int .i64 G, .int .i64 G, .int .i64 0, .int .i64 0, .int .i64 0, .int .i64 0, .int .i64 0, .int .i64 0] 62)) g2 0 (gBar G) := by
              obtain ⟨a', c', hv', hm'⟩ := HBR2.out
              injection hv' with hv' _ _
              obtain ⟨b', off', hbo, hc⟩ := hm' 0 (gBar G) (by rw [List.getElem?_replicate, if_pos (by omega)])
              rw [← hv'] at hbo
              simp only [Option.some.injEq, Addr.mk.injEq, and_true] at hbo
              obtain ⟨e1, e2⟩ := hbo
              subst e1; subst e2
              exact hc
            obtain ⟨q0, q1, q2, q3⟩ := hq
            rw [Nat.zero_add] at q1 q2 q3
            have hj1 : (0 : Int) < (j : Int) := by omega
            have hgb := gBar_ok g0 g1
            have hgm := gMark_ok g0 g1
            have hgr := grade_one' hgm.1 hgb.1 hgb.2
            have Hgb := Lib.hid hgb
            have Hgm := Lib.hid hgm
            have Hgr := Lib.hid hgr
            clear hM hgb hgm hgr HBR HS3 hB5
            go_wp2_with fail
            refine (grade_ex _ [gMark G] (gBar G) _ HM.out (by simp) Hgr.out).mono ?_
            rintro e w7 ⟨rfl, hB7⟩
            have HS5 := Lib.hid (HS4.out.below hB7)
            have HBR3 := Lib.hid (HBR2.out.below hB7)
            have HM3 := Lib.hid (HM.out.below hB7)
            clear hB7 HS4 HBR2 HM q0 q1 q2 q3 HL Hg2 Hpl Iw Iv HN HS2 Hok Hx Ha He
            by_cases hr : ruleB j ⟨rg, po, pi, rb, fo, fi⟩ = true
            · have Hr := Lib.hid hr
              clear hr
              go_wp2_with fail
              go_loopw [20, 19] (fun i q wr => ∃ a : Nat, a ≤ j + 1 ∧ i = .int .i64 a ∧ q = .bool (keptTo j ⟨rg, po, pi, rb, fo, fi⟩ a) ∧ Below w7.heap.size w7 wr) (fun i _ _ => j + 1 - (intOf i).toNat)
              case atStart => exact ⟨0, by omega, rfl, rfl, Below.refl _ _⟩
              case round =>
                obtain ⟨a, ha, rfl, rfl, hB⟩ := hrel
                have HS6 := Lib.hid (HS5.out.below hB)
                by_cases hlt : a ≤ j
                · obtain ⟨⟨r0, r1, r2, r3, r4, r5⟩, _⟩ := HS6.out
                  have lr := HS6.out.lt
                  have hk : keepsR j ⟨rg, po, pi, rb, fo, fi⟩ j a = (keepsB j ⟨rg, po, pi, rb, fo, fi⟩ j a, 0) := by rw [keepsR_all (by omega) (by omega) hlt, if_pos Hr.out]
                  have hst := keptTo_succ j ⟨rg, po, pi, rb, fo, fi⟩ a
                  generalize keepsB j ⟨rg, po, pi, rb, fo, fi⟩ j a = z at *
                  generalize keptTo j ⟨rg, po, pi, rb, fo, fi⟩ a = y at *
                  have Hk := Lib.hid hk
                  have Hst := Lib.hid hst
                  have HB := Lib.hid hB
                  clear hk hst hB
                  cases y with
                  | true =>
                    go_wp2_with fail
                    refine (keeps_ex j j a ⟨rg, po, pi, rb, fo, fi⟩ _ Hk.out).mono ?_
                    rintro e w8 ⟨rfl, hB8⟩
                    have HB8 := Lib.hid (below_trans HB.out hB8)
                    clear hB8 r0 r1 r2 r3 r4 r5
                    go_wp2_with fail
                    go_roundw
                    case rel => exact ⟨a + 1, by omega, by go_num, by rw [Hst.out]; rfl, HB8.out⟩
                    case measure => simp [intOf]; omega
                  | false =>
                    go_wp2_with fail
                    refine (keeps_ex j j a ⟨rg, po, pi, rb, fo, fi⟩ _ Hk.out).mono ?_
                    rintro e w8 ⟨rfl, hB8⟩
                    have HB8 := Lib.hid (below_trans HB.out hB8)
                    clear hB8 r0 r1 r2 r3 r4 r5
                    go_wp2_with fail
                    go_roundw
                    case rel => exact ⟨a + 1, by omega, by go_num, by rw [Hst.out]; rfl, HB8.out⟩
                    case measure => simp [intOf]; omega
                · obtain rfl : a = j + 1 := by omega
                  obtain ⟨⟨r0, r1, r2, r3, r4, r5⟩, _⟩ := HS6.out
                  have lr := HS6.out.lt
                  have HBR4 := Lib.hid (HBR3.out.below hB)
                  have HM4 := Lib.hid (HM3.out.below hB)
                  rw [keptTo_all Hr.out]
                  obtain ⟨al, _, _, _, hz⟩ := promise_first (m := gMark G) (ms := []) (n := j) (r := ⟨rg, po, pi, rb, fo, fi⟩) (xs := List.replicate j (gBar G)) Hgm.out.2 (by omega) (by omega) Hr.out (by simp) (fun y hy => by rw [List.eq_of_mem_replicate hy]; exact Hgb.out.1) (fun y hy => by rw [List.eq_of_mem_replicate hy]; exact Hgb.out.2)
                    (by rw [List.length_replicate]; exact some_keeps Hr.out)
                  have Hz := Lib.hid hz
                  clear hz hB
                  have hv : (List.replicate j (gBar G)).length = j := List.length_replicate
                  have Hv := Lib.hid hv
                  clear hv
                  go_wp2_with fail
                  refine (promise_ex _ _ [gMark G] (List.replicate j (gBar G)) j ⟨rg, po, pi, rb, fo, fi⟩ _ HM4.out (by simp) HBR4.out (by rw [Hv.out]; omega) Hz.out).mono ?_
                  rintro e w8 ⟨rfl, hB8⟩
                  have HS7 := Lib.hid (HS6.out.below hB8)
                  clear hB8 r0 r1 r2 r3 r4 r5
                  go_wp2_with fail
                  refine (packed_is _).mono ?_
                  rintro e w9 ⟨rfl, hB9⟩
                  have hB10 := (HS7.out.below hB9).2.2
                  clear hB9
                  go_wp2_with fail
                  go_ret
                  exact ⟨rfl, hB10⟩
            · have hk : keepsR j ⟨rg, po, pi, rb, fo, fi⟩ j (0 : Nat) = (false, 71) := by rw [keepsR_all (by omega) (by omega) (by omega), if_neg hr]
              have Hk := Lib.hid hk
              clear hr hk
              obtain ⟨⟨r0, r1, r2, r3, r4, r5⟩, _⟩ := HS5.out
              have lr := HS5.out.lt
              go_wp2_with fail
              go_loopw [20] (fun i wr => i = .int .i64 0 ∧ wr = w7) (fun _ _ => 0)
              case atStart => exact ⟨rfl, rfl⟩
              case round =>
                obtain ⟨rfl, rfl⟩ := hrel
                go_wp2_with fail
                refine (keeps_ex j j (0 : Nat) ⟨rg, po, pi, rb, fo, fi⟩ _ Hk.out).mono ?_
                rintro e w8 ⟨rfl, hB8⟩
                have HS7 := Lib.hid (HS5.out.below hB8)
                clear hB8 r0 r1 r2 r3 r4 r5
                go_wp2_with fail
                refine (packed_is _).mono ?_
                rintro e w9 ⟨rfl, hB9⟩
                have hB10 := (HS7.out.below hB9).2.2
                clear hB9
                go_wp2_with fail
                go_ret
                exact ⟨rfl, hB10⟩

end Go.Proofs.Ythpllmefbhjmmaa
