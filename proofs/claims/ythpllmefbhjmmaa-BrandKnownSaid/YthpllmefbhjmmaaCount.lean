/-
  How many choices there are: the closure that counts them, and the method that makes it.
-/
import Derived.Test.YthpllmefbhjmmaaMemo
import Derived.WalkKit
import Derived.WalkSpells
import Derived.WalkLawsBesides
import Derived.Deep.RegionHeld3
import Derived.Maps.OwnSet
import Derived.Lib.Hide
import Derived.Laws.EntriesVeiled
namespace Go.Proofs.Ythpllmefbhjmmaa
open Go.RowKit Go.Maps Plain

theorem memo_alloc {w w' : World} {m : Nat} (hM : Memo w m) (h : w' = w ∨ ∃ o, w' = w.alloc o) : Memo w' m := by
  rcases h with rfl | ⟨o, rfl⟩
  · exact hM
  · exact hM.kept (World.grownBy_alloc _ _ none) (by simp)

abbrev Fcl (bl bf : Nat) : Value := .func (.func 106) #[] #[.pointer (some ⟨bl, 0, none⟩), .pointer (some ⟨bf, 0, none⟩)]

set_option maxHeartbeats 400000 in
theorem count1_zero (n : Int) (w : World) (m bl bf : Nat) (hm : Memo w m) :
    Calls Try.prog 106 #[.agg #[.int .i64 n, .int .i64 0], .pointer (some ⟨bl, 0, none⟩), .pointer (some ⟨bf, 0, none⟩)] w fun e w' => e = .returned (.int .i64 1) ∧ Memo w' m ∧ w.grownBy w' (some m) := by
  go_enter Try.func106, Try.ntmps106
  go_wp2
  go_ret
  exact ⟨rfl, memo_alloc hm (.inr ⟨_, rfl⟩), World.grownBy_alloc _ _ _⟩

set_option maxHeartbeats 400000 in
theorem count1_all (n : Int) (w : World) (m bl bf : Nat) (hm : Memo w m) (h0 : 0 < n) :
    Calls Try.prog 106 #[.agg #[.int .i64 n, .int .i64 n], .pointer (some ⟨bl, 0, none⟩), .pointer (some ⟨bf, 0, none⟩)] w fun e w' => e = .returned (.int .i64 1) ∧ Memo w' m ∧ w.grownBy w' (some m) := by
  have h1 : (n == 0) = false := by simp; omega
  go_enter Try.func106, Try.ntmps106
  go_wp2
  go_ret
  exact ⟨rfl, memo_alloc hm (.inr ⟨_, rfl⟩), World.grownBy_alloc _ _ _⟩

set_option maxHeartbeats 400000 in
theorem count1_above (n c : Int) (w : World) (m bl bf : Nat) (hm : Memo w m) (h0 : 0 ≤ n) (h : n < c) :
    Calls Try.prog 106 #[.agg #[.int .i64 n, .int .i64 c], .pointer (some ⟨bl, 0, none⟩), .pointer (some ⟨bf, 0, none⟩)] w fun e w' => e = .returned (.int .i64 0) ∧ Memo w' m ∧ w.grownBy w' (some m) := by
  have h1 : (c == 0) = false := by simp; omega
  have h2 : (n == c) = false := by simp; omega
  go_enter Try.func106, Try.ntmps106
  go_wp2
  go_ret
  exact ⟨rfl, memo_alloc hm (.inr ⟨_, rfl⟩), World.grownBy_alloc _ _ _⟩

set_option maxRecDepth 100000 in
set_option maxHeartbeats 400000 in
theorem count1_known (n c : Nat) (w : World) (m bl bf : Nat) (D : DataW Unit) (hown : w.ownsMap Try.prog 153 (plainElem Try.prog 3) m 1681 D) (hg : Good D)
    (hl : w.cell? ⟨bl, 0, none⟩ = some (.map (some m))) (h0 : 0 < c) (h : c < n) (hn : n ≤ 40) (hh : has D (klit n c) = true) :
    Calls Try.prog 106 #[.agg #[.int .i64 (n : Int), .int .i64 (c : Int)], .pointer (some ⟨bl, 0, none⟩), .pointer (some ⟨bf, 0, none⟩)] w fun e w' => e = .returned (.int .i64 (ch n c : Nat)) ∧ Memo w' m ∧ w.grownBy w' (some m) := by
  have h1 : ((c : Int) == 0) = false := by simp; omega
  have h2 : ((n : Int) == (c : Int)) = false := by simp; omega
  have h3 : (0 : Int) ≤ c := by omega
  have h4 : (c : Int) ≤ n := by omega
  have hlt : bl < w.heap.size := World.block_lt_of_cell? w _ hl
  have hkey := key_nat n c hn (by omega)
  have hat := good_at hg n c hn (by omega) hh (.lit (.int .i64 0))
  have Hkey := Lib.hid hkey
  have Hat := Lib.hid hat
  have Hh := Lib.hid hh
  clear hkey hat hh
  go_enter Try.func106, Try.ntmps106
  go_wp2_with (at_lookup; refine wpList_lookup_own_ok_int _ rfl _ _ 101 rfl 153 3 .i64 law153 Try.underlying101 Try.underlying3 (zero3 _) m 1681 D rfl (hown.alloc _) _ _ rfl Hkey.out ?_; intro x hx hwx; rw [Hh.out]; have hx' := hx.symm.trans Hat.out; clear hx; obtain rfl : x = (ch n c : Nat) := by injection hx' with hx'; injection hx')
  go_ret
  exact ⟨rfl, memo_alloc ⟨D, hown, hg⟩ (.inr ⟨_, rfl⟩), World.grownBy_alloc _ _ _⟩

/-- What holds of the world throughout the statement that calls itself twice. -/
abbrev CountS (w : World) (m bl bf : Nat) (n c : Nat) (w' : World) : Prop :=
  w'.cell? ⟨bl, 0, none⟩ = some (.map (some m)) ∧ w'.cell? ⟨bf, 0, none⟩ = some (Fcl bl bf) ∧ w'.cell? ⟨w.heap.size, 0, none⟩ = some (.int .i64 (n : Int)) ∧ w'.cell? ⟨w.heap.size, 1, none⟩ = some (.int .i64 (c : Int)) ∧
    Memo w' m ∧ w.grownBy w' (some m)

theorem CountS.step {w : World} {m bl bf n c : Nat} {wa wb : World} (h : CountS w m bl bf n c wa) (hM : Memo wb m) (hG : wa.grownBy wb (some m)) : CountS w m bl bf n c wb := by
  obtain ⟨h1, h2, h3, h4, h5, h6⟩ := h
  have k : ∀ {a : Addr} {v : Value}, wa.cell? a = some v → wb.cell? a = some v := fun hc => hG.cell hc (fun e => h5.noCell hc (by injection e))
  exact ⟨k h1, k h2, k h3, k h4, hM, h6.trans hG⟩

theorem grown_drew {a w : World} {row : Option Nat} (h : a.grownBy w row) : a.grownBy w.drew row := ⟨h.os, h.tape, h.output, h.size, h.block⟩

theorem CountS.start {w : World} {m bl bf n c : Nat} (hl : w.cell? ⟨bl, 0, none⟩ = some (.map (some m))) (hf : w.cell? ⟨bf, 0, none⟩ = some (Fcl bl bf)) (hm : Memo w m) :
    CountS w m bl bf n c (w.alloc (.cells #[.int .i64 (n : Int), .int .i64 (c : Int)] 153)).drew := by
  have hG : ∀ row, w.grownBy (w.alloc (.cells #[.int .i64 (n : Int), .int .i64 (c : Int)] 153)).drew row := fun row => grown_drew (World.grownBy_alloc _ _ _)
  exact ⟨(World.cell?_alloc_lt w _ _ (World.block_lt_of_cell? w _ hl)).trans hl, (World.cell?_alloc_lt w _ _ (World.block_lt_of_cell? w _ hf)).trans hf, by simp, by simp, hm.kept (hG none) (by simp), hG _⟩

set_option maxRecDepth 100000 in
set_option maxHeartbeats 800000 in
theorem count1_new (n c : Nat) (w : World) (m bl bf : Nat) (D : DataW Unit) (hown : w.ownsMap Try.prog 153 (plainElem Try.prog 3) m 1681 D) (hg : Good D)
    (hl : w.cell? ⟨bl, 0, none⟩ = some (.map (some m))) (hf : w.cell? ⟨bf, 0, none⟩ = some (Fcl bl bf)) (h0 : 0 < c) (h : c < n) (hn : n ≤ 40) (hh : has D (klit n c) = false)
    (ih : ∀ (a b : Int) (w : World), 0 ≤ a → a + 1 ≤ n → 0 ≤ b → b ≤ 40 → Memo w m → w.cell? ⟨bl, 0, none⟩ = some (.map (some m)) → w.cell? ⟨bf, 0, none⟩ = some (Fcl bl bf) →
      Calls Try.prog 106 #[.agg #[.int .i64 a, .int .i64 b], .pointer (some ⟨bl, 0, none⟩), .pointer (some ⟨bf, 0, none⟩)] w fun e w' => e = .returned (.int .i64 (cnt a b)) ∧ Memo w' m ∧ w.grownBy w' (some m)) :
    Calls Try.prog 106 #[.agg #[.int .i64 (n : Int), .int .i64 (c : Int)], .pointer (some ⟨bl, 0, none⟩), .pointer (some ⟨bf, 0, none⟩)] w fun e w' => e = .returned (.int .i64 (ch n c : Nat)) ∧ Memo w' m ∧ w.grownBy w' (some m) := by
  have h1 : ((c : Int) == 0) = false := by simp; omega
  have h2 : ((n : Int) == (c : Int)) = false := by simp; omega
  have h3 : (0 : Int) ≤ c := by omega
  have h4 : (c : Int) ≤ n := by omega
  have hlt : bl < w.heap.size := World.block_lt_of_cell? w _ hl
  have hlf : bf < w.heap.size := World.block_lt_of_cell? w _ hf
  have hkey := key_nat n c hn (by omega)
  have Hkey := Lib.hid hkey
  have Hh := Lib.hid hh
  have Hst := Lib.hid (CountS.start (n := n) (c := c) hl hf ⟨D, hown, hg⟩)
  have Hih := Lib.hid ih
  have hw1 : IntKind.i64.wrap ((n : Int) - 1) = (n : Int) - 1 := IntWalk.i64_in _ (by omega)
  have hw2 : IntKind.i64.wrap ((c : Int) - 1) = (c : Int) - 1 := IntWalk.i64_in _ (by omega)
  clear hkey hh ih
  go_enter Try.func106, Try.ntmps106
  go_wp2_with (at_lookup; refine wpList_lookup_own_ok_int _ rfl _ _ 101 rfl 153 3 .i64 law153 Try.underlying101 Try.underlying3 (zero3 _) m 1681 D rfl (hown.alloc _) _ _ rfl Hkey.out ?_; intro x hx hwx; rw [Hh.out])
  go_region_held3 (fun w' => w'.cell? ⟨bl, 0, none⟩ = some (.map (some m)) ∧ w'.cell? ⟨bf, 0, none⟩ = some (Fcl bl bf) ∧ w'.cell? ⟨w.heap.size, 0, none⟩ = some (.int .i64 (n : Int)) ∧ w'.cell? ⟨w.heap.size, 1, none⟩ = some (.int .i64 (c : Int)) ∧
    Memo w' m ∧ w.grownBy w' (some m))
    (first | exact Hst.out | exact CountS.step (by assumption) hM hG)
    (first | (go_at_call 106; refine (Hih.out _ _ _ (by omega) (by omega) (by omega) (by omega) (by go_split_ands; assumption) (by go_split_ands; assumption) (by go_split_ands; assumption)).mono ?_; rintro e w1 ⟨rfl, hM, hG⟩))
  have hS : CountS w m bl bf n c w1 := by assumption
  obtain ⟨s1, s2, s3, s4, ⟨D1, hown1, hg1⟩, s6⟩ := hS
  clear hM hG Hst Hih
  have hb : (ch n c : Int) ≤ 1099511627776 := by have := cnt_le n c (by omega); rwa [cnt_nat] at this
  have e1 : IntKind.i64.wrap (cnt ((n : Int) - 1) c + cnt ((n : Int) - 1) ((c : Int) - 1)) = (ch n c : Nat) := by
    rw [← cnt_step n c (by omega) (by omega), cnt_nat, IntWalk.i64_in _ (by omega)]
  rw [e1]
  go_wp2_with (at_mapUpdate; refine wpList_mapUpdate_own _ rfl _ _ _ 101 rfl 153 3 law153 Try.underlying101 _ m 1681 _ rfl hown1 (by unfold maxLen; omega) _ _ _ rfl rfl Hkey.out _ [] (plainElem_int Try.underlying3 (WalkArith.wf_i64 (by omega))) ?_; intro w2 hown2 hgrow2)
  go_ret
  exact ⟨rfl, Memo.stored hown2 (good_put hg1 n c hn (by omega)), s6.trans hgrow2⟩

/-- The closure, at whatever numbers: by induction on the greater one. -/
theorem count1 : ∀ (k : Nat) (a b : Int) (w : World) (m bl bf : Nat), 0 ≤ a → a ≤ k → k ≤ 40 → 0 ≤ b → b ≤ 40 → Memo w m → w.cell? ⟨bl, 0, none⟩ = some (.map (some m)) → w.cell? ⟨bf, 0, none⟩ = some (Fcl bl bf) →
    Calls Try.prog 106 #[.agg #[.int .i64 a, .int .i64 b], .pointer (some ⟨bl, 0, none⟩), .pointer (some ⟨bf, 0, none⟩)] w fun e w' => e = .returned (.int .i64 (cnt a b)) ∧ Memo w' m ∧ w.grownBy w' (some m) := by
  intro k
  induction k with
  | zero =>
    intro a b w m bl bf h0 h1 h2 h3 h4 hM hl hf
    obtain rfl : a = 0 := by omega
    by_cases hb : b = 0
    · subst hb
      exact (count1_zero 0 w m bl bf hM).mono fun _ _ ⟨he, hw, hg⟩ => ⟨by rw [he, cnt_zero], hw, hg⟩
    · exact (count1_above 0 b w m bl bf hM (by omega) (by omega)).mono fun _ _ ⟨he, hw, hg⟩ => ⟨by rw [he, cnt_above 0 b (by omega) (by omega)], hw, hg⟩
  | succ k ih =>
    intro a b w m bl bf h0 h1 h2 h3 h4 hM hl hf
    by_cases hb : b = 0
    · subst hb
      exact (count1_zero a w m bl bf hM).mono fun _ _ ⟨he, hw, hg⟩ => ⟨by rw [he, cnt_zero], hw, hg⟩
    by_cases hab : a < b
    · exact (count1_above a b w m bl bf hM (by omega) (by omega)).mono fun _ _ ⟨he, hw, hg⟩ => ⟨by rw [he, cnt_above a b (by omega) (by omega)], hw, hg⟩
    by_cases he : a = b
    · subst he
      exact (count1_all a w m bl bf hM (by omega)).mono fun _ _ ⟨he, hw, hg⟩ => ⟨by rw [he, cnt_self a (by omega)], hw, hg⟩
    obtain ⟨n, rfl⟩ := Int.eq_ofNat_of_zero_le h0
    obtain ⟨c, rfl⟩ := Int.eq_ofNat_of_zero_le h3
    obtain ⟨D, hown, hg⟩ := hM
    rw [cnt_nat]
    cases hh : has D (klit n c) with
    | true => exact count1_known n c w m bl bf D hown hg hl (by omega) (by omega) (by omega) hh
    | false => exact count1_new n c w m bl bf D hown hg hl hf (by omega) (by omega) (by omega) hh (fun a b w g0 g1 g2 g3 hM hl hf => ih a b w m bl bf g0 (by omega) (by omega) g2 g3 hM hl hf)

set_option maxHeartbeats 400000 in
/-- 'count': how many choices there are. -/
theorem count_any (a b : Int) (w : World) (m : Nat) (h0 : 0 ≤ a) (h1 : a ≤ 40) (h2 : 0 ≤ b) (h3 : b ≤ 40) (hM : Memo w m) :
    Calls Try.prog 101 #[.map (some m), .int .i64 a, .int .i64 b] w fun e w' => e = .returned (.int .i64 (cnt a b)) ∧ Memo w' m ∧ w.grownBy w' (some m) := by
  go_enter Try.func101, Try.ntmps101
  go_wp2_with fail
  refine (count1 40 a b _ m w.heap.size (w.heap.size + 1) h0 (by omega) (by omega) h2 h3 ((hM.kept (World.grownBy_alloc _ _ none) (by simp)).kept (World.grownBy_alloc _ _ none) (by simp)) ?_ ?_).mono ?_
  · go_simp
  · go_simp
  rintro e w1 ⟨rfl, hM1, hG1⟩
  have hG : w.grownBy w1 (some m) := ((World.grownBy_alloc _ _ _).trans (World.grownBy_alloc _ _ _)).trans hG1
  clear hG1
  go_wp2_with fail
  go_ret
  exact ⟨rfl, hM1, hG⟩

end Go.Proofs.Ythpllmefbhjmmaa
