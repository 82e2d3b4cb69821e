/-
  Is it a yard: barrel.CheckYard.
-/
import Derived.Test.YthpllmefbhjmmaaYard
namespace Go.Proofs.Ythpllmefbhjmmaa
open Go.RowKit Go.Maps Plain
attribute [local go_sem] Oper.semAt_some

/-- Is it a barrel of a yard? -/
def ckB (c : Ck) : Bool := inB c.full 1 1000 && inB c.level 0 c.full && inB c.line 0 c.full && spanTo1 ⟨c.lo, c.hi⟩ 1000
/-- Is it a yard? -/
def yardB (l : List Ck) : Bool := inB l.length 1 4 && l.all ckB
/-- The first k barrels, behind a first word. -/
def upto (b : Bool) (l : List Ck) (k : Nat) : Bool := b && (l.take k).all ckB
theorem upto_succ {b : Bool} {l : List Ck} {k : Nat} (h : k < l.length) : upto b l (k + 1) = (upto b l k && ckB l[k]) := by
  unfold upto; rw [List.take_succ_eq_append_getElem h, List.all_append]; simp [Bool.and_assoc]

set_option maxRecDepth 100000 in
set_option maxHeartbeats 1600000 in
theorem checkYard87 {r : Bool} (v : Value) (l : List Ck) (w : World) (hl : CksAt w v l) (hlen : l.length ≤ 140737488351232) (hr : yardB l = r) :
    Calls Try.prog 87 #[v] w fun e w' => e = .returned (.int .i64 (if r then 0 else 61)) ∧ Below w.heap.size w w' := by
  obtain ⟨a, cap, rfl, hm⟩ := hl
  have Hm := Lib.hid hm
  clear hm
  have Hw := Lib.hid (within88)
  have Hs := Lib.hid (spanned104)
  have hy : upto (inB l.length 1 4) l l.length = r := by rw [← hr]; unfold yardB upto; rw [List.take_length]
  have Hy := Lib.hid hy
  clear hy hr
  generalize hb : inB l.length 1 4 = b0 at Hy
  have HB0 := Lib.hid hb
  clear hb
  go_enter Try.func87, Try.ntmps87
  go_wp2_with fail
  refine (Hw.out _ _ _ _).mono ?_
  rintro e w1 ⟨rfl, rfl⟩
  rw [HB0.out]
  go_wp2_with fail
  go_loopw [12, 3] (fun i q wr => ∃ k : Nat, k ≤ l.length ∧ i = .int .i64 k ∧ q = .bool (upto b0 l k) ∧ Below w.heap.size w wr) (fun i _ _ => l.length - (intOf i).toNat)
  case atStart => exact ⟨0, by omega, rfl, by simp [upto], Below.refl _ _⟩
  case round =>
    obtain ⟨k, hk, rfl, rfl, hB⟩ := hrel
    by_cases hlt : k < l.length
    · have hk1 : (k : Int) < (l.length : Int) := by omega
      have hk0 : (0 : Int) ≤ (k : Int) := by omega
      obtain ⟨b, off, rfl, hc⟩ := Hm.out k l[k] (List.getElem?_eq_getElem hlt)
      obtain ⟨c0, c1, c2, c3, c4⟩ := hc.kept (hB.block _ hc.lt)
      have Hu := Lib.hid (upto_succ (b := b0) hlt)
      have HB := Lib.hid hB
      generalize l[k] = c at *
      obtain ⟨lv, fu, li, lo, hi⟩ := c
      generalize upto b0 l k = q at *
      clear hB hc
      have hk' : ckB ⟨lv, fu, li, lo, hi⟩ = (inB fu 1 1000 && inB lv 0 fu && inB li 0 fu && spanTo1 ⟨lo, hi⟩ 1000) := rfl
      rw [hk'] at Hu
      have h1 := Hw.out fu 1 1000
      have h2 := Hw.out lv 0 fu
      have h3 := Hw.out li 0 fu
      have h4 := Hs.out ⟨lo, hi⟩ 1000
      generalize inB fu 1 1000 = f1 at *
      generalize inB lv 0 fu = f2 at *
      generalize inB li 0 fu = f3 at *
      generalize spanTo1 ⟨lo, hi⟩ 1000 = f4 at *
      have H1 := Lib.hid h1
      have H2 := Lib.hid h2
      have H3 := Lib.hid h3
      have H4 := Lib.hid h4
      have HB1 := HB.out.alloc HB.out.size (.cells #[.int .i64 lv, .int .i64 fu, .int .i64 li, .int .i64 lo, .int .i64 hi] 74)
      have HB2 := Lib.hid (HB1.alloc HB1.size (.cells #[.int .i64 lv, .int .i64 fu, .int .i64 li, .int .i64 lo, .int .i64 hi] 150))
      clear HB1
      clear h1 h2 h3 h4 hk'
      cases q with
      | false =>
        rw [Bool.false_and] at Hu
        go_wp2_with fail
        go_roundw
        case rel => exact ⟨k + 1, by omega, by go_num, by rw [Hu.out], HB2.out⟩
        case measure => simp [intOf]; omega
      | true =>
        rw [Bool.true_and] at Hu
        cases f1 with
        | false =>
          simp only [Bool.false_and] at Hu
          go_wp2_with fail
          refine (H1.out _).mono ?_
          rintro e w2 ⟨rfl, rfl⟩
          go_wp2_with fail
          go_roundw
          case rel => exact ⟨k + 1, by omega, by go_num, by rw [Hu.out], HB2.out⟩
          case measure => simp [intOf]; omega
        | true =>
          cases f2 with
          | false =>
            simp only [Bool.false_and, Bool.true_and] at Hu
            go_wp2_with fail
            refine (H1.out _).mono ?_
            rintro e w2 ⟨rfl, rfl⟩
            go_wp2_with fail
            refine (H2.out _).mono ?_
            rintro e w2 ⟨rfl, rfl⟩
            go_wp2_with fail
            go_roundw
            case rel => exact ⟨k + 1, by omega, by go_num, by rw [Hu.out], HB2.out⟩
            case measure => simp [intOf]; omega
          | true =>
            cases f3 with
            | false =>
              simp only [Bool.false_and, Bool.true_and] at Hu
              go_wp2_with fail
              refine (H1.out _).mono ?_
              rintro e w2 ⟨rfl, rfl⟩
              go_wp2_with fail
              refine (H2.out _).mono ?_
              rintro e w2 ⟨rfl, rfl⟩
              go_wp2_with fail
              refine (H3.out _).mono ?_
              rintro e w2 ⟨rfl, rfl⟩
              go_wp2_with fail
              go_roundw
              case rel => exact ⟨k + 1, by omega, by go_num, by rw [Hu.out], HB2.out⟩
              case measure => simp [intOf]; omega
            | true =>
              simp only [Bool.true_and] at Hu
              go_wp2_with fail
              refine (H1.out _).mono ?_
              rintro e w2 ⟨rfl, rfl⟩
              go_wp2_with fail
              refine (H2.out _).mono ?_
              rintro e w2 ⟨rfl, rfl⟩
              go_wp2_with fail
              refine (H3.out _).mono ?_
              rintro e w2 ⟨rfl, rfl⟩
              go_wp2_with fail
              refine (H4.out _).mono ?_
              rintro e w2 ⟨rfl, hB3⟩
              have HB3 := Lib.hid (HB2.out.trans (hB3.mono (Nat.le_trans HB2.out.size (Nat.le_refl _))))
              clear hB3
              go_wp2_with fail
              go_roundw
              case rel => exact ⟨k + 1, by omega, by go_num, by rw [Hu.out], HB3.out⟩
              case measure => simp [intOf]; omega
    · obtain rfl : k = l.length := by omega
      rw [Hy.out]
      have HB := Lib.hid hB
      clear hB
      cases r
      · go_wp2_with fail
        go_ret
        exact ⟨rfl, HB.out⟩
      · go_wp2_with fail
        go_ret
        exact ⟨rfl, HB.out⟩

end Go.Proofs.Ythpllmefbhjmmaa
