/-
  The reference's 'Promise' answers as the program's does.
-/
import Derived.Test.YthpllmefbhjmmaaRefGraded
import Derived.Test.YthpllmefbhjmmaaRefFewest
namespace Go.Proofs.Ythpllmefbhjmmaa
open Go.RowKit Go.Maps Plain
attribute [local go_sem] Oper.semAt_some

/-- A brand's and a barrel's cells, wherever they lie. -/
def GrT (w0 : World) (b off b2 off2 : Nat) (m : Mk) (x : Br) (w' : World) : Prop :=
  w'.cell? ⟨b, off, none⟩ = some (.int .i64 m.s0.lo) ∧ w'.cell? ⟨b, off + 1, none⟩ = some (.int .i64 m.s0.hi) ∧ w'.cell? ⟨b, off + 2, none⟩ = some (.int .i64 m.s1.lo) ∧ w'.cell? ⟨b, off + 3, none⟩ = some (.int .i64 m.s1.hi) ∧
    w'.cell? ⟨b, off + 4, none⟩ = some (.int .i64 m.s2.lo) ∧ w'.cell? ⟨b, off + 5, none⟩ = some (.int .i64 m.s2.hi) ∧ w'.cell? ⟨b, off + 6, none⟩ = some (.int .i64 m.s3.lo) ∧ w'.cell? ⟨b, off + 7, none⟩ = some (.int .i64 m.s3.hi) ∧
    w'.cell? ⟨b2, off2, none⟩ = some (.int .i64 x.b0) ∧ w'.cell? ⟨b2, off2 + 1, none⟩ = some (.int .i64 x.b1) ∧ w'.cell? ⟨b2, off2 + 2, none⟩ = some (.int .i64 x.b2) ∧ w'.cell? ⟨b2, off2 + 3, none⟩ = some (.int .i64 x.b3) ∧ Below w0.heap.size w0 w'

theorem GrT.mk {w0 w' : World} {b off b2 off2 : Nat} {m : Mk} {x : Br} (hm : MkAt w' b off m) (hx : BrAt w' b2 off2 x) (hB : Below w0.heap.size w0 w') : GrT w0 b off b2 off2 m x w' := by
  obtain ⟨c0, c1, c2, c3, c4, c5, c6, c7⟩ := hm
  obtain ⟨x0, x1, x2, x3⟩ := hx
  exact ⟨c0, c1, c2, c3, c4, c5, c6, c7, x0, x1, x2, x3, hB⟩
theorem GrT.lt {w0 w' : World} {b off b2 off2 : Nat} {m : Mk} {x : Br} (h : GrT w0 b off b2 off2 m x w') : b < w'.heap.size ∧ b2 < w'.heap.size :=
  ⟨World.block_lt_of_cell? _ _ h.1, World.block_lt_of_cell? _ _ h.2.2.2.2.2.2.2.2.1⟩
theorem GrT.below {w0 w' w2 : World} {b off b2 off2 : Nat} {m : Mk} {x : Br} (h : GrT w0 b off b2 off2 m x w') (hB : Below w'.heap.size w' w2) : GrT w0 b off b2 off2 m x w2 := by
  obtain ⟨l0, l1⟩ := h.lt
  obtain ⟨c0, c1, c2, c3, c4, c5, c6, c7, x0, x1, x2, x3, hb⟩ := h
  have k : ∀ i, w2.cell? ⟨b, i, none⟩ = w'.cell? ⟨b, i, none⟩ := fun i => World.cell?_of_block (a := ⟨b, i, none⟩) (hB.block b l0)
  have k' : ∀ i, w2.cell? ⟨b2, i, none⟩ = w'.cell? ⟨b2, i, none⟩ := fun i => World.cell?_of_block (a := ⟨b2, i, none⟩) (hB.block b2 l1)
  exact ⟨(k _).trans c0, (k _).trans c1, (k _).trans c2, (k _).trans c3, (k _).trans c4, (k _).trans c5, (k _).trans c6, (k _).trans c7, (k' _).trans x0, (k' _).trans x1, (k' _).trans x2, (k' _).trans x3, below_trans hb hB⟩
theorem GrT.drew {w0 w' : World} {b off b2 off2 : Nat} {m : Mk} {x : Br} (h : GrT w0 b off b2 off2 m x w') : GrT w0 b off b2 off2 m x w'.drew := by
  obtain ⟨c0, c1, c2, c3, c4, c5, c6, c7, x0, x1, x2, x3, hb⟩ := h
  exact ⟨c0, c1, c2, c3, c4, c5, c6, c7, x0, x1, x2, x3, hb.drew⟩

/-- The rule's block. -/
def RuS (w : World) (r : Rl) (w' : World) : Prop := RuleAt w' w.heap.size r ∧ Below w.heap.size w w'
theorem RuS.lt {w : World} {r : Rl} {w' : World} (h : RuS w r w') : w.heap.size < w'.heap.size := World.block_lt_of_cell? _ _ h.1.1
theorem RuS.below {w : World} {r : Rl} {w' w2 : World} (h : RuS w r w') (hB : Below w'.heap.size w' w2) : RuS w r w2 := ⟨h.1.below hB h.lt, below_trans h.2 hB⟩
theorem RuS.start (w : World) (r : Rl) : RuS w r (w.alloc (.cells #[.int .i64 r.g, .int .i64 r.po, .int .i64 r.pi, .int .i64 r.b, .int .i64 r.fo, .int .i64 r.fi] 39)) := ⟨by unfold RuleAt; go_simp, below_alloc _⟩

theorem belowOf_snoc (m : Mk) (xs : List Br) (j : Nat) (h : j < xs.length) : belowOf m (xs.take (j + 1)) = belowOf m (xs.take j) + (if belowB m xs[j] then 1 else 0) := by
  unfold belowOf
  rw [List.take_succ_eq_append_getElem h, List.filter_append, List.length_append]
  congr 1
  rw [List.filter_cons]
  split <;> rfl

set_option maxRecDepth 100000 in
set_option maxHeartbeats 1600000 in
theorem promiseRef_early (v ov : Value) (ms : List Mk) (xs : List Br) (N : Int) (r : Rl) (w : World) (hms : MarksAt w v ms) (hlen : ms.length ≤ 140737488351232) (hov : ∃ a n c, ov = .slice a n c)
    (h : ¬ (marksB ms = true ∧ inB N 1 40 = true ∧ ruleB N r = true)) :
    Calls Try.prog 38 #[v, .int .i64 N, rlV r, ov] w fun e w' => e = .returned (promV (promiseR ms N r xs)) ∧ Below w.heap.size w w' := by
  obtain ⟨oa, on, oc, rfl⟩ := hov
  have Hst := Lib.hid (RuS.start w r)
  have Hms := Lib.hid (hms.below Hst.out.2)
  clear hms
  cases h1 : marksB ms with
  | false =>
    have He : Hid (promiseR ms N r xs = (0, 0, 70)) := by show _ = _; unfold promiseR; rw [h1, if_neg (by simp)]
    have H1 := Lib.hid h1
    clear h1 h
    obtain ⟨g, po, pi, b, fo, fi⟩ := r
    go_enter Try.func38, Try.ntmps38
    go_wp2_with fail
    refine (marksR_is v ms _ Hms.out hlen H1.out).mono ?_
    rintro e w1 ⟨rfl, hB1⟩
    have hS := Hst.out.below hB1
    clear hB1
    go_wp2_with fail
    refine bodyPost_ret (v := promV (0, 0, 70)) (by simp [results, Try.results38, go_sem]) rfl ⟨by rw [He.out], hS.2⟩
  | true =>
  cases h2 : inB N 1 40 with
  | false =>
    have He : Hid (promiseR ms N r xs = (0, 0, 7)) := by show _ = _; unfold promiseR; rw [h1, h2, if_pos rfl, if_neg (by simp)]
    have H1 := Lib.hid h1
    have H2 := Lib.hid h2
    clear h1 h2 h
    obtain ⟨g, po, pi, b, fo, fi⟩ := r
    go_enter Try.func38, Try.ntmps38
    go_wp2_with fail
    refine (marksR_is v ms _ Hms.out hlen H1.out).mono ?_
    rintro e w1 ⟨rfl, hB1⟩
    have hS := Hst.out.below hB1
    clear hB1
    go_wp2_with (go_at_call 34; refine (in_is _ _ _ _ H2.out).mono ?_; rintro e w1 ⟨rfl, rfl⟩)
    refine bodyPost_ret (v := promV (0, 0, 7)) (by simp [results, Try.results38, go_sem]) rfl ⟨by rw [He.out], hS.2⟩
  | true =>
    have h3 : ruleB N r = false := by cases e : ruleB N r <;> simp_all
    have He : Hid (promiseR ms N r xs = (0, 0, 71)) := by show _ = _; unfold promiseR; rw [h1, h2, h3, if_pos rfl, if_pos rfl, if_neg (by simp)]
    have H1 := Lib.hid h1
    have H2 := Lib.hid h2
    have H3 := Lib.hid h3
    clear h1 h2 h3 h
    obtain ⟨g, po, pi, b, fo, fi⟩ := r
    go_enter Try.func38, Try.ntmps38
    go_wp2_with fail
    refine (marksR_is v ms _ Hms.out hlen H1.out).mono ?_
    rintro e w1 ⟨rfl, hB1⟩
    have HS := Lib.hid (Hst.out.below hB1)
    obtain ⟨⟨r0, r1, r2, r3, r4, r5⟩, _⟩ := HS.out
    have hl := HS.out.lt
    clear hB1
    go_wp2_with (go_at_call 34; refine (in_is _ _ _ _ H2.out).mono ?_; rintro e w1 ⟨rfl, rfl⟩)
    refine (ruleRef_is N ⟨g, po, pi, b, fo, fi⟩ _ H3.out).mono ?_
    rintro e w2 ⟨rfl, hB2⟩
    have hS := HS.out.below hB2
    clear hB2
    go_wp2_with fail
    refine bodyPost_ret (v := promV (0, 0, 71)) (by simp [results, Try.results38, go_sem]) rfl ⟨by rw [He.out], hS.2⟩

theorem rowTo_zero (o : Nat) : rowTo o 0 = [] := rfl

set_option maxRecDepth 100000 in
set_option maxHeartbeats 3200000 in
theorem promiseRef_late (v ov : Value) (ms : List Mk) (xs : List Br) (N : Int) (r : Rl) (w : World) (hms : MarksAt w v ms) (hlen : ms.length ≤ 140737488351232) (hxs : BrsAt w ov xs) (hlx : xs.length ≤ 140737488351232)
    (h1 : marksB ms = true) (h2 : inB N 1 40 = true) (h3 : ruleB N r = true) :
    Calls Try.prog 38 #[v, .int .i64 N, rlV r, ov] w fun e w' => e = .returned (promV (promiseR ms N r xs)) ∧ Below w.heap.size w w' := by
  have Hst := Lib.hid (RuS.start w r)
  have Hms := Lib.hid (hms.below Hst.out.2)
  obtain ⟨g1, g2⟩ := inB_true h2
  obtain ⟨n, rfl⟩ := Int.eq_ofNat_of_zero_le (show 0 ≤ N by omega)
  have He : Hid (promiseR ms n r xs = if okOpened n xs = true then promFin (allowFold n r xs.length (rows (n + 1))) (promised (allowFold n r xs.length (rows (n + 1))) ms xs) else (0, 0, 73)) := by
    show _ = _; unfold promiseR; rw [h1, h2, h3, if_pos rfl, if_pos rfl, if_pos rfl, Int.toNat_natCast]
  have Hall : Hid (∀ m ∈ ms, markB m = true) := by
    show ∀ m ∈ ms, _
    intro m hm
    unfold marksB at h1
    rw [Bool.and_eq_true] at h1
    exact List.all_eq_true.1 h1.2 m hm
  obtain ⟨oa, oc, rfl, hx⟩ := hxs
  have Hxs : Hid (BrsAt w (.slice oa xs.length oc) xs) := ⟨oa, oc, rfl, hx⟩
  obtain ⟨ma, mc, rfl, hmm⟩ := hms
  have Hmm : Hid (MarksAt w (.slice ma ms.length mc) ms) := ⟨ma, mc, rfl, hmm⟩
  have H1 := Lib.hid h1
  have H2 := Lib.hid h2
  have H3 := Lib.hid h3
  clear h1 h2 h3 hx hmm
  obtain ⟨q0, hq⟩ : ∃ q, decide (xs.length ≤ n) = q := ⟨_, rfl⟩
  have Hq := Lib.hid hq
  obtain ⟨g, po, pi, b, fo, fi⟩ := r
  go_enter Try.func38, Try.ntmps38
  go_wp2_with fail
  refine (marksR_is _ ms _ Hms.out hlen H1.out).mono ?_
  rintro e w1 ⟨rfl, hB1⟩
  have HS := Lib.hid (Hst.out.below hB1)
  obtain ⟨⟨r0, r1, r2, r3, r4, r5⟩, _⟩ := HS.out
  have hl := HS.out.lt
  clear hB1
  go_wp2_with (go_at_call 34; refine (in_is _ _ _ _ H2.out).mono ?_; rintro e w1 ⟨rfl, rfl⟩)
  refine (ruleRef_is n ⟨g, po, pi, b, fo, fi⟩ _ H3.out).mono ?_
  rintro e w2 ⟨rfl, hB2⟩
  have HS2 := Lib.hid (HS.out.below hB2)
  clear hB2 HS r0 r1 r2 r3 r4 r5 hl Hst Hms
  go_wp2_with fail
  clear hq
  go_loopw [11, 12] (fun ok i wr => ∃ k : Nat, k ≤ xs.length ∧ i = .int .i64 k ∧ ok = .bool (q0 && (xs.take k).all barB) ∧ RuS w ⟨g, po, pi, b, fo, fi⟩ wr) (fun _ i _ => (xs.length - (intOf i).toNat))
  case atStart => exact ⟨0, by omega, rfl, by simp, HS2.out⟩
  case round =>
    obtain ⟨k, hk, rfl, rfl, hS⟩ := hrel
    have HSr := Lib.hid hS
    clear hS HS2
    obtain ⟨q1, hq1⟩ : ∃ q, (q0 && (xs.take k).all barB) = q := ⟨_, rfl⟩
    have Hq1 := Lib.hid hq1
    rw [hq1]
    clear hq1
    cases q1 with
    | false =>
      have Hok : Hid (okOpened n xs = false) := by
        show _ = _
        have h := Hq1.out
        have hd : decide ((xs.length : Int) ≤ (n : Int)) = q0 := by rw [← Hq.out]; simp
        rw [okOpened, hd]
        rw [Bool.and_eq_false_iff] at h ⊢
        rcases h with h | h
        · exact .inl h
        · refine .inr ?_
          rw [List.all_eq_false] at h ⊢
          obtain ⟨x, hx, hs⟩ := h
          exact ⟨x, List.mem_of_mem_take hx, hs⟩
      go_wp2_with fail
      refine bodyPost_ret (v := promV (0, 0, 73)) (by simp [results, Try.results38, go_sem]) rfl ⟨by rw [He.out, Hok.out]; rfl, HSr.out.2⟩
    | true =>
    by_cases hlt : k < xs.length
    · have hk1 : (k : Int) < (xs.length : Int) := by omega
      have hk0 : (0 : Int) ≤ (k : Int) := by omega
      obtain ⟨oa2, oc2, he, hx⟩ := Hxs.out.below HSr.out.2
      obtain ⟨b', off, ha, hc⟩ := hx k xs[k] (by simp [hlt])
      obtain rfl : oa = some ⟨b', off, none⟩ := by injection he with he; rw [he, ha]
      have hbl := hc.lt
      have Hn : Hid ((q0 && (xs.take (k + 1)).all barB) = barB xs[k]) := by
        show _ = _
        rw [List.take_succ_eq_append_getElem hlt, List.all_append, ← Bool.and_assoc, Hq1.out]; simp
      generalize xs[k] = x at hc Hn
      obtain ⟨c0, c1, c2, c3⟩ := hc
      obtain ⟨q2, hbx⟩ : ∃ q, barB x = q := ⟨_, rfl⟩
      have Hbx := Lib.hid hbx
      clear hx he ha hbx
      go_wp2_with fail
      refine (barrelR_is x _ Hbx.out).mono ?_
      rintro e w5 ⟨rfl, hB5⟩
      have Hfin := Lib.hid (HSr.out.below hB5)
      clear hB5
      go_wp2_with fail
      go_roundw
      case rel => exact ⟨k + 1, by omega, by go_num, by rw [Hn.out, Hbx.out], Hfin.out⟩
      case measure => simp [intOf]; omega
    · have Hok : Hid (okOpened n xs = true) := by
        show _ = _
        have hd : decide ((xs.length : Int) ≤ (n : Int)) = q0 := by rw [← Hq.out]; simp
        rw [okOpened, hd, ← Hq1.out, List.take_of_length_le (by omega)]
      have hln : xs.length ≤ n := by
        have := Hok.out
        unfold okOpened at this
        rw [Bool.and_eq_true, decide_eq_true_eq] at this
        omega
      have He2 : Hid (promiseR ms n ⟨g, po, pi, b, fo, fi⟩ xs = promFin (allowFold n ⟨g, po, pi, b, fo, fi⟩ xs.length (rowTo xs.length (xs.length + 1))) (promised (allowFold n ⟨g, po, pi, b, fo, fi⟩ xs.length (rowTo xs.length (xs.length + 1))) ms xs)) := by
        show _ = _
        rw [He.out, Hok.out, if_pos rfl, allow_row hln, ← rowTo_all]
      clear Hok He
      go_wp2_with fail
      go_loopw [13, 14] (fun al i wb => ∃ j : Nat, j ≤ xs.length + 1 ∧ i = .int .i64 j ∧ al = .int .i64 (allowFold n ⟨g, po, pi, b, fo, fi⟩ xs.length (rowTo xs.length j)) ∧ RuS w ⟨g, po, pi, b, fo, fi⟩ wb) (fun _ i _ => (xs.length + 1 - (intOf i).toNat))
      case atStart => exact ⟨0, by omega, rfl, rfl, HSr.out⟩
      case round =>
        clear HSr
        obtain ⟨j, hj, rfl, rfl, hS⟩ := hrel
        have HSb := Lib.hid hS
        clear hS
        obtain ⟨al, hal⟩ : ∃ al, allowFold n ⟨g, po, pi, b, fo, fi⟩ xs.length (rowTo xs.length j) = al := ⟨_, rfl⟩
        have Hal := Lib.hid hal
        rw [hal]
        clear hal
        by_cases hjl : (j : Int) ≤ (xs.length : Int)
        · obtain ⟨q, hqk⟩ : ∃ q, keepsB n ⟨g, po, pi, b, fo, fi⟩ xs.length j = q := ⟨_, rfl⟩
          have HQ := Lib.hid hqk
          have Hstep : Hid (allowFold n ⟨g, po, pi, b, fo, fi⟩ xs.length (rowTo xs.length (j + 1)) = if q = true then (j : Int) else al) := by
            show _ = _
            rw [rowTo_succ, allowFold_snoc, Hal.out]; simp only [beq_self_eq_true, Bool.true_and, HQ.out]
          clear hqk
          obtain ⟨⟨r0, r1, r2, r3, r4, r5⟩, _⟩ := HSb.out
          have hl := HSb.out.lt
          go_wp2_with fail
          refine (keepsRef_is n ⟨g, po, pi, b, fo, fi⟩ xs.length j _ (by omega) (by omega) (by omega) (by omega) (by omega) (by omega) H3.out HQ.out).mono ?_
          rintro e w6 ⟨rfl, hB6⟩
          have Hfin := Lib.hid (HSb.out.below hB6)
          clear hB6 r0 r1 r2 r3 r4 r5
          cases q with
          | false =>
            go_wp2_with fail
            go_roundw
            case rel => exact ⟨j + 1, by omega, by go_num, by rw [Hstep.out]; rfl, Hfin.out⟩
            case measure => simp [intOf]; omega
          | true =>
            go_wp2_with fail
            go_roundw
            case rel => exact ⟨j + 1, by omega, by go_num, by rw [Hstep.out]; rfl, Hfin.out⟩
            case measure => simp [intOf]; omega
        · obtain rfl : j = xs.length + 1 := by omega
          rw [Hal.out] at He2
          by_cases hal0 : 0 ≤ al
          case neg =>
            have hd0 : decide (0 ≤ al) = false := by simpa using hal0
            have Hp : Hid (promiseR ms n ⟨g, po, pi, b, fo, fi⟩ xs = (0, 0, 4)) := by
              show _ = _
              rw [He2.out, show promised al ms xs = none from by
                unfold promised
                rw [List.findIdx?_eq_none_iff]
                intro m _
                simp; omega]
              rfl
            go_wp2_with fail
            refine wp_loop_rounds 1 ?_
            rw [rounds_succ]
            go_wp2_with fail
            refine bodyPost_ret (v := promV (0, 0, 4)) (by simp [results, Try.results38, go_sem]) rfl ⟨by rw [Hp.out], HSb.out.2⟩
          have hd0 : decide (0 ≤ al) = true := by simpa using hal0
          go_wp2_with fail
          go_loopw [15] (fun i wc => ∃ k : Nat, k ≤ ms.length ∧ i = .int .i64 k ∧ Hid (∀ i m, i < k → ms[i]? = some m → al < (belowOf m xs : Int)) ∧ RuS w ⟨g, po, pi, b, fo, fi⟩ wc) (fun i _ => (ms.length - (intOf i).toNat))
          case atStart => exact ⟨0, by omega, rfl, fun i m hi => by omega, HSb.out⟩
          case round =>
            clear HSb
            obtain ⟨k, hk, rfl, hall, hS⟩ := hrel
            have HSc := Lib.hid hS
            clear hS
            by_cases hlt : k < ms.length
            · have hk1 : (k : Int) < (ms.length : Int) := by omega
              have hk0 : (0 : Int) ≤ (k : Int) := by omega
              obtain ⟨ma0, mc0, he0, hmm0⟩ := Hmm.out
              obtain ⟨b', off, ha, _⟩ := hmm0 k ms[k] (by simp [hlt])
              obtain rfl : ma = some ⟨b', off, none⟩ := by injection he0 with he0; rw [he0, ha]
              have Hmk : Hid (∀ W : World, Below w.heap.size w W → MkAt W b' (off + k * 8) ms[k]) := fun W hW => by
                obtain ⟨ma2, mc2, he, hmm⟩ := Hmm.out.below hW
                obtain ⟨b2, off2, ha2, hc2⟩ := hmm k ms[k] (by simp [hlt])
                have : some (⟨b', off, none⟩ : Addr) = some ⟨b2, off2, none⟩ := by injection he with he; rw [he, ha2]
                injection this with this
                injection this with e1 e2
                subst e1; subst e2
                exact hc2
              have Hbr := Lib.hid (fun x => below_reach (Hall.out ms[k] (by simp)) x)
              have Hnx : Hid (al < (belowOf ms[k] xs : Int) → ∀ i m, i < k + 1 → ms[i]? = some m → al < (belowOf m xs : Int)) := fun h i m hi hm => by
                by_cases e : i = k
                · subst e; rw [List.getElem?_eq_getElem hlt] at hm; cases hm; exact h
                · exact hall.out i m (by omega) hm
              have Hfs : Hid ((belowOf ms[k] xs : Int) ≤ al → promised al ms xs = some k) := fun h => by
                unfold promised
                rw [List.findIdx?_eq_some_iff_getElem]
                exact ⟨hlt, by simpa using h, fun j hj => by simpa using hall.out j ms[j] hj (by simp [show j < ms.length by omega])⟩
              generalize ms[k] = mk at Hmk Hbr Hnx Hfs
              clear he0 hmm0 ha hall
              go_wp2_with fail
              go_loopw [16, 17] (fun c i wd => ∃ j : Nat, j ≤ xs.length ∧ i = .int .i64 j ∧ c = .int .i64 (belowOf mk (xs.take j) : Int) ∧ RuS w ⟨g, po, pi, b, fo, fi⟩ wd) (fun _ i _ => (xs.length - (intOf i).toNat))
              case atStart => exact ⟨0, by omega, rfl, rfl, HSc.out⟩
              case round =>
                clear HSc
                obtain ⟨j, hj, rfl, rfl, hS⟩ := hrel
                have HSd := Lib.hid hS
                clear hS
                by_cases hjl : j < xs.length
                · have hj1 : (j : Int) < (xs.length : Int) := by omega
                  have hj0 : (0 : Int) ≤ (j : Int) := by omega
                  obtain ⟨oa2, oc2, he, hx⟩ := Hxs.out.below HSd.out.2
                  obtain ⟨b2, off2, ha, hc⟩ := hx j xs[j] (by simp [hjl])
                  obtain rfl : oa = some ⟨b2, off2, none⟩ := by injection he with he; rw [he, ha]
                  have Hn := Lib.hid (belowOf_snoc mk xs j hjl)
                  have hcl : belowOf mk (xs.take j) ≤ j := Nat.le_trans (List.length_filter_le _ _) (by simp; omega)
                  generalize belowOf mk (xs.take j) = c at hcl Hn ⊢
                  generalize xs[j] = x at hc Hn
                  have hT := GrT.mk (Hmk.out wr HSd.out.2) hc (Below.refl wr.heap.size wr)
                  have HT := Lib.hid hT
                  obtain ⟨hbl, hbl2⟩ := hT.lt
                  obtain ⟨q, hqr⟩ : ∃ q, reachB mk x = q := ⟨_, rfl⟩
                  have HQ := Lib.hid hqr
                  clear hx he ha hqr hT hc
                  go_wp2_with fail
                  go_region_held3 (fun w' => w'.cell? ⟨b', off + k * 8, none⟩ = some (.int .i64 mk.s0.lo) ∧ w'.cell? ⟨b', off + k * 8 + 1, none⟩ = some (.int .i64 mk.s0.hi) ∧ w'.cell? ⟨b', off + k * 8 + 2, none⟩ = some (.int .i64 mk.s1.lo) ∧ w'.cell? ⟨b', off + k * 8 + 3, none⟩ = some (.int .i64 mk.s1.hi) ∧
                      w'.cell? ⟨b', off + k * 8 + 4, none⟩ = some (.int .i64 mk.s2.lo) ∧ w'.cell? ⟨b', off + k * 8 + 5, none⟩ = some (.int .i64 mk.s2.hi) ∧ w'.cell? ⟨b', off + k * 8 + 6, none⟩ = some (.int .i64 mk.s3.lo) ∧ w'.cell? ⟨b', off + k * 8 + 7, none⟩ = some (.int .i64 mk.s3.hi) ∧
                      w'.cell? ⟨b2, off2 + j * 4, none⟩ = some (.int .i64 x.b0) ∧ w'.cell? ⟨b2, off2 + j * 4 + 1, none⟩ = some (.int .i64 x.b1) ∧ w'.cell? ⟨b2, off2 + j * 4 + 2, none⟩ = some (.int .i64 x.b2) ∧ w'.cell? ⟨b2, off2 + j * 4 + 3, none⟩ = some (.int .i64 x.b3) ∧ Below wr.heap.size wr w')
                    (first | exact HT.out.drew | exact GrT.below (by assumption) hB3)
                    (first | (go_at_call 60; refine (reaches_is mk x _ HQ.out).mono ?_; rintro e w3 ⟨rfl, hB3⟩))
                  have hT3 : GrT wr b' (off + k * 8) b2 (off2 + j * 4) mk x w3 := by assumption
                  have Hfin := Lib.hid (HSd.out.below hT3.2.2.2.2.2.2.2.2.2.2.2.2)
                  clear hB3 hT3
                  cases q with
                  | false =>
                    go_wp2_with fail
                    go_roundw
                    case rel => exact ⟨j + 1, by omega, by go_num, by rw [Hn.out, Hbr.out, HQ.out]; go_num, Hfin.out⟩
                    case measure => simp [intOf]; omega
                  | true =>
                    go_wp2_with fail
                    go_roundw
                    case rel => exact ⟨j + 1, by omega, by go_num, by rw [Hn.out, Hbr.out, HQ.out]; simp, Hfin.out⟩
                    case measure => simp [intOf]; omega
                · obtain rfl : j = xs.length := by omega
                  rw [List.take_length]
                  generalize belowOf mk xs = c at Hnx Hfs ⊢
                  by_cases hle : (c : Int) ≤ al
                  · have Hp : Hid (promiseR ms n ⟨g, po, pi, b, fo, fi⟩ xs = ((k : Int), al, 0)) := by show _ = _; rw [He2.out, Hfs.out hle]; rfl
                    clear Hnx Hfs
                    go_wp2_with fail
                    refine bodyPost_ret (v := promV ((k : Int), al, 0)) (by simp [results, Try.results38, go_sem]) rfl ⟨by rw [Hp.out], HSd.out.2⟩
                  · have Hn := Lib.hid (Hnx.out (by omega))
                    clear Hnx Hfs
                    go_wp2_with fail
                    go_roundw
                    case rel => exact ⟨k + 1, by omega, by go_num, Hn.out, HSd.out⟩
                    case measure => simp [intOf]; omega
            · obtain rfl : k = ms.length := by omega
              have Hp : Hid (promiseR ms n ⟨g, po, pi, b, fo, fi⟩ xs = (0, 0, 4)) := by
                show _ = _
                rw [He2.out, show promised al ms xs = none from by
                  unfold promised
                  rw [List.findIdx?_eq_none_iff]
                  intro m hm
                  obtain ⟨i, hi, rfl⟩ := List.getElem_of_mem hm
                  simpa using hall.out i ms[i] hi (by simp [hi])]
                rfl
              go_wp2_with fail
              refine bodyPost_ret (v := promV (0, 0, 4)) (by simp [results, Try.results38, go_sem]) rfl ⟨by rw [Hp.out], HSc.out.2⟩

theorem promiseRef_ex {z : Int × Int × Int} (v ov : Value) (ms : List Mk) (xs : List Br) (N : Int) (r : Rl) (w : World) (hms : MarksAt w v ms) (hlen : ms.length ≤ 140737488351232) (hxs : BrsAt w ov xs) (hlx : xs.length ≤ 140737488351232) (h : promiseR ms N r xs = z) :
    Calls Try.prog 38 #[v, .int .i64 N, rlV r, ov] w fun e w' => e = .returned (promV z) ∧ Below w.heap.size w w' := by
  rw [← h]
  by_cases hc : marksB ms = true ∧ inB N 1 40 = true ∧ ruleB N r = true
  · exact promiseRef_late v ov ms xs N r w hms hlen hxs hlx hc.1 hc.2.1 hc.2.2
  · exact promiseRef_early v ov ms xs N r w hms hlen (by obtain ⟨a, c, h, _⟩ := hxs; exact ⟨a, _, c, h⟩) hc

end Go.Proofs.Ythpllmefbhjmmaa
