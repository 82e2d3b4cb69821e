/-
  Whether baskets are valid, and whether fish of some can be of one grade.
-/
import Derived.Test.YthpllmefbhjmmaaLoads
import Derived.Test.YthpllmefbhjmmaaTwoF
namespace Go.Proofs.Ythpllmefbhjmmaa
open Go.RowKit Go.Maps Plain
attribute [local go_sem] Oper.semAt_some

def loadsB (l : List Sp) : Bool := inB l.length 1 40 && l.all spanB
theorem badAt_all (l : List Sp) : decide (0 ≤ badAt l) = !(l.all spanB) := by
  unfold badAt
  cases h : l.findIdx? (fun s => !spanB s) with
  | none =>
    rw [List.findIdx?_eq_none_iff] at h
    have : l.all spanB = true := List.all_eq_true.2 fun s hs => by simpa using h s hs
    rw [this]; rfl
  | some i =>
    rw [List.findIdx?_eq_some_iff_getElem] at h
    obtain ⟨h1, h2, _⟩ := h
    have : l.all spanB = false := by
      cases hq : l.all spanB with
      | false => rfl
      | true =>
        have := List.all_eq_true.1 hq l[i] (List.getElem_mem h1)
        rw [this] at h2; cases h2
    rw [this]; simp

set_option maxHeartbeats 400000 in
theorem contains102 {q : Bool} (v : Value) (l : List Sp) (w : World) (hl : SpsAt w v l) (hlen : l.length ≤ 140737488351232) (h : l.all spanB = q) :
    Calls Try.prog 102 #[v, .func (.func 103) #[] #[]] w fun e w' => e = .returned (.bool (!q)) ∧ Below w.heap.size w w' := by
  have hb := badAt_all l
  rw [h] at hb
  have Hc := Lib.hid (index107 v l w hl hlen)
  obtain ⟨z, hz⟩ : ∃ z, badAt l = z := ⟨_, rfl⟩
  rw [hz] at hb Hc
  clear hz hl
  cases q with
  | true =>
    have hd : decide (0 ≤ z) = false := hb
    clear hb
    go_enter Try.func102, Try.ntmps102
    go_wp2_with fail
    refine Hc.out.mono ?_
    rintro e w1 ⟨rfl, hB⟩
    go_wp2_with fail
    go_ret
    exact ⟨rfl, hB⟩
  | false =>
    have hd : decide (0 ≤ z) = true := hb
    clear hb
    go_enter Try.func102, Try.ntmps102
    go_wp2_with fail
    refine Hc.out.mono ?_
    rintro e w1 ⟨rfl, hB⟩
    go_wp2_with fail
    go_ret
    exact ⟨rfl, hB⟩

set_option maxHeartbeats 400000 in
theorem areLoads_is {q : Bool} (v : Value) (l : List Sp) (w : World) (hl : SpsAt w v l) (hlen : l.length ≤ 140737488351232) (h : loadsB l = q) :
    Calls Try.prog 82 #[v] w fun e w' => e = .returned (.bool q) ∧ Below w.heap.size w w' := by
  obtain ⟨a, cap, rfl, hm⟩ := hl
  have Hl : Hid (SpsAt w (.slice a l.length cap) l) := ⟨a, cap, rfl, hm⟩
  clear hm
  unfold loadsB at h
  cases h1 : inB l.length 1 40 with
  | false =>
    rw [h1, Bool.false_and] at h
    subst h
    have hw := within86 l.length 1 40
    rw [h1] at hw
    have Hw := Lib.hid hw
    clear hw h1
    go_enter Try.func82, Try.ntmps82
    go_wp2_with fail
    refine (Hw.out _).mono ?_
    rintro e w1 ⟨rfl, rfl⟩
    go_wp2_with fail
    go_ret
    exact ⟨rfl, Below.refl _ _⟩
  | true =>
    rw [h1, Bool.true_and] at h
    have hw := within86 l.length 1 40
    rw [h1] at hw
    have Hw := Lib.hid hw
    have Hc := Lib.hid (contains102 _ l w Hl.out hlen h)
    clear hw h1 h
    cases q
    all_goals
      go_enter Try.func82, Try.ntmps82
      go_wp2_with fail
      refine (Hw.out _).mono ?_
      rintro e w1 ⟨rfl, rfl⟩
      go_wp2_with fail
      refine Hc.out.mono ?_
      rintro e w2 ⟨rfl, hB⟩
      go_wp2_with fail
      go_ret
      exact ⟨rfl, hB⟩

/-- The greatest Low, the least High. -/
def mxL (l : List Sp) (x : Int) : Int := l.foldl (fun a s => max a s.lo) x
def mnH (l : List Sp) (x : Int) : Int := l.foldl (fun a s => min a s.hi) x
theorem mxL_snoc {l : List Sp} {x : Int} {k : Nat} (h : k < l.length) : mxL (l.take (k + 1)) x = max (mxL (l.take k) x) l[k].lo := by
  unfold mxL; rw [List.take_succ_eq_append_getElem h, List.foldl_append]; rfl
theorem mnH_snoc {l : List Sp} {x : Int} {k : Nat} (h : k < l.length) : mnH (l.take (k + 1)) x = min (mnH (l.take k) x) l[k].hi := by
  unfold mnH; rw [List.take_succ_eq_append_getElem h, List.foldl_append]; rfl
/-- Can they be of one grade? -/
def alikeB (l : List Sp) : Bool := match l with
  | [] => false
  | s :: _ => decide (mxL l s.lo ≤ mnH l s.hi)

set_option maxRecDepth 100000 in
set_option maxHeartbeats 1600000 in
theorem alike_is {q : Bool} (v : Value) (l : List Sp) (w : World) (hl : SpsAt w v l) (hlen : l.length ≤ 140737488351232) (h0 : 0 < l.length) (h : alikeB l = q) :
    Calls Try.prog 83 #[v] w fun e w' => e = .returned (.bool q) ∧ Below w.heap.size w w' := by
  have hq : decide (mxL l l[0].lo ≤ mnH l l[0].hi) = q := by
    cases l with
    | nil => simp at h0
    | cons s l => exact h
  have Hq := Lib.hid hq
  clear hq h
  obtain ⟨a, cap, rfl, hm⟩ := hl
  have Hm := Lib.hid hm
  clear hm
  obtain ⟨b, off, rfl, c0, c1⟩ := Hm.out 0 l[0] (List.getElem?_eq_getElem h0)
  rw [Nat.zero_mul, Nat.add_zero] at c0 c1
  generalize l[0] = s0 at *
  obtain ⟨lo0, hi0⟩ := s0
  simp only at c0 c1
  have hbl : b < w.heap.size := World.block_lt_of_cell? w _ c0
  have hz0 : (0 : Int) < (l.length : Int) := by omega
  have HT0 := Lib.hid ((TwF.start (Below.refl w.heap.size w)).push lo0 hi0 47)
  go_enter Try.func83, Try.ntmps83
  go_wp2_with fail
  go_loopw [11] (fun i wr => ∃ k : Nat, k ≤ l.length ∧ i = .int .i64 k ∧ TwF w [(w.heap.size, mxL (l.take k) lo0, mnH (l.take k) hi0)] wr) (fun i _ => l.length - (intOf i).toNat)
  case atStart => exact ⟨0, by omega, rfl, HT0.out⟩
  case round =>
    obtain ⟨k, hk, rfl, hT⟩ := hrel
    obtain ⟨⟨⟨t0, t1⟩, f0, f1⟩, hA⟩ := hT.get (B := w.heap.size) (p := mxL (l.take k) lo0) (q := mnH (l.take k) hi0) (by simp)
    have hB := hT.2
    have HT := Lib.hid hT
    clear hT
    by_cases hlt : k < l.length
    · have hk1 : (k : Int) < (l.length : Int) := by omega
      have hk0 : (0 : Int) ≤ (k : Int) := by omega
      obtain ⟨b', off', hbo, d0, d1⟩ := Hm.out k l[k] (List.getElem?_eq_getElem hlt)
      simp only [Option.some.injEq, Addr.mk.injEq, and_true] at hbo
      obtain ⟨e1, e2⟩ := hbo
      subst e1; subst e2
      have g0 := (World.cell?_of_block (a := ⟨b, off + k * 2, none⟩) (hB.block _ hbl)).trans d0
      have g1 := (World.cell?_of_block (a := ⟨b, off + k * 2 + 1, none⟩) (hB.block _ hbl)).trans d1
      have hx := mxL_snoc (x := lo0) hlt
      have hy := mnH_snoc (x := hi0) hlt
      generalize l[k] = s at *
      obtain ⟨lo, hi⟩ := s
      simp only at g0 g1 hx hy
      clear d0 d1 c0 c1
      have Hx := Lib.hid hx
      have Hy := Lib.hid hy
      clear hx hy
      generalize mxL (l.take k) lo0 = m1 at *
      generalize mnH (l.take k) hi0 = m2 at *
      have hbr : b < wr.heap.size := by omega
      have HR := Lib.hid ((HT.out.set (l1 := []) (l2 := []) (by simp) (by simp) (Nat.le_refl _) (max m1 lo) (min m2 hi)).below (below_alloc (.cells #[.int .i64 lo, .int .i64 hi] 47)))
      clear HT hB
      go_wp2_with fail
      go_roundw
      case rel => exact ⟨k + 1, by omega, by go_num, by rw [Hx.out, Hy.out]; exact HR.out⟩
      case measure => simp [intOf]; omega
    · obtain rfl : k = l.length := by omega
      rw [List.take_length] at t0 t1
      generalize mxL l lo0 = m1 at *
      generalize mnH l hi0 = m2 at *
      have hqq := Hq.out
      clear c0 c1 HT
      go_wp2_with fail
      go_ret
      exact ⟨by first | rfl | (rw [hqq]; rfl), hB⟩

end Go.Proofs.Ythpllmefbhjmmaa
