/-
  'Lots': the fewest lots.
-/
import Derived.Test.YthpllmefbhjmmaaAlike
import Derived.Test.YthpllmefbhjmmaaBelow
import Derived.Deep.AppendLies
namespace Go.Proofs.Ythpllmefbhjmmaa
open Go.RowKit Go.Maps Plain
attribute [local go_sem] Oper.semAt_some

/-- Baskets from a on, below e. -/
def part (l : List Sp) (a e : Nat) : List Sp := (l.drop a).take (e - a)
theorem part_length {l : List Sp} {a e : Nat} (h : e ≤ l.length) : (part l a e).length = e - a := by unfold part; simp; omega
theorem part_get {l : List Sp} {a e i : Nat} (h : i < e - a) : (part l a e)[i]? = l[a + i]? := by
  unfold part; rw [List.getElem?_take, if_pos h, List.getElem?_drop]
theorem SpsAt.part {w : World} {b off cap : Nat} {l : List Sp} {a e : Nat} (h : SpsAt w (.slice (some ⟨b, off, none⟩) l.length cap) l) (he : e ≤ l.length) (n c : Nat) (hn : n = e - a) : SpsAt w (.slice (some ⟨b, off + a * 2, none⟩) n c) (part l a e) := by
  subst hn
  obtain ⟨a', c', hv, hm⟩ := h
  injection hv with hv _ _
  refine ⟨_, c, by rw [part_length he], fun i s hi => ⟨b, off + a * 2, rfl, ?_⟩⟩
  have hil : i < e - a := by
    have := (List.getElem?_eq_some_iff.1 hi).1
    rwa [part_length he] at this
  rw [part_get hil] at hi
  obtain ⟨b', off', hbo, c0, c1⟩ := hm (a + i) s hi
  rw [← hv] at hbo
  simp only [Option.some.injEq, Addr.mk.injEq, and_true] at hbo
  obtain ⟨e1, e2⟩ := hbo
  subst e1; subst e2
  rw [show off + (a + i) * 2 = off + a * 2 + i * 2 by omega] at c0 c1
  exact ⟨c0, c1⟩

/-- The lots of the first k baskets. -/
def lotsTo (l : List Sp) : Nat → List Nat
  | 0 => [0]
  | k + 1 => if alikeB (part l ((lotsTo l k).getLastD 0) (k + 1)) = true then lotsTo l k else lotsTo l k ++ [k]
theorem lots_form (l : List Sp) : ∀ k : Nat, (lotsTo l k).length ≤ k + 1 ∧ 0 < (lotsTo l k).length ∧ (lotsTo l k).getLastD 0 ≤ k
  | 0 => by simp [lotsTo]
  | k + 1 => by
    obtain ⟨h1, h2, h3⟩ := lots_form l k
    unfold lotsTo
    split
    · omega
    · simp; omega

theorem below_row' {W X w1 : World} {v : Value} {base e size n : Nat} {xs : List Value} (h : Below W.heap.size W X) (ho : X.ownsRow base e size v n xs) (hb : W.heap.size ≤ base) (hg : X.grownBy w1 v.ownBlock) : Below W.heap.size W w1 :=
  h.grown hg h.size (fun k hk => Nat.le_trans hb (ho.lt k hk).1)
theorem info3' : (Try.prog.info? 3).map (fun i => (i.zero, i.size, i.bytes)) = some (some (.int .i64 0), 1, 8) := by kernel_rfl

/-- What 'Lots' hands back: a row of its own. -/
def LotsPost (l : List Sp) (w : World) (e : Ending) (w' : World) : Prop :=
  ∃ g : Nat, e = .returned (.tuple #[.slice (some ⟨g, 0, none⟩) (lotsTo l l.length).length (lotsTo l l.length).length, .int .i64 0]) ∧
    (∀ i n, (lotsTo l l.length)[i]? = some n → w'.cell? ⟨g, i, none⟩ = some (.int .i64 (n : Nat))) ∧ Below w.heap.size w w'

set_option maxRecDepth 100000 in
set_option maxHeartbeats 1600000 in
theorem lots_good (b off cap : Nat) (l : List Sp) (w : World) (hl : SpsAt w (.slice (some ⟨b, off, none⟩) l.length cap) l) (hcap : l.length ≤ cap) (h : loadsB l = true) :
    Calls Try.prog 30 #[.slice (some ⟨b, off, none⟩) l.length cap] w (LotsPost l w) := by
  have h' := h
  unfold loadsB at h'
  rw [Bool.and_eq_true] at h'
  obtain ⟨l1, l2⟩ := inB_true h'.1
  have Hl := Lib.hid hl
  have H := Lib.hid h
  clear hl h h'
  obtain ⟨i0, hi0, hz0, hz1, hz2⟩ := info_parts info3'
  go_enter Try.func30, Try.ntmps30
  go_wp2_with fail
  refine (areLoads_is _ l _ Hl.out (by omega) H.out).mono ?_
  rintro e w1 ⟨rfl, hB1⟩
  have hB2 := below_more hB1 (.cells #[.int .i64 0] 3)
  have hO : (w1.alloc (.cells #[.int .i64 0] 3)).ownsRow w.heap.size 3 1 (.slice (some ⟨w1.heap.size, 0, none⟩) 1 1) 1 (ints (lotsTo l 0)) :=
    ⟨rfl, .inr ⟨w1.heap.size, 1, #[.int .i64 0], rfl, hB1.size, heap_alloc_new _ _, Nat.le_refl _, by unfold maxLen; omega, rfl, rfl⟩⟩
  have HO := Lib.hid hO
  clear hO
  go_wp2_with fail
  go_loopw [4, 12] (fun out i wr => ∃ k g c : Nat, k ≤ l.length ∧ i = .int .i64 k ∧ out = .slice (some ⟨g, 0, none⟩) (lotsTo l k).length c ∧ wr.ownsRow w.heap.size 3 1 (.slice (some ⟨g, 0, none⟩) (lotsTo l k).length c) (lotsTo l k).length (ints (lotsTo l k)) ∧ Below w.heap.size w wr) (fun _ i _ => l.length - (intOf i).toNat)
  case atStart => exact ⟨0, w1.heap.size, 1, by omega, rfl, rfl, HO.out, hB2⟩
  case round =>
    obtain ⟨k, g, c, hk, rfl, rfl, hown, hB⟩ := hrel
    obtain ⟨f1, f2, f3⟩ := lots_form l k
    obtain ⟨p, hp⟩ : ∃ p, (lotsTo l k).length = p + 1 := ⟨(lotsTo l k).length - 1, by omega⟩
    obtain ⟨x, hx⟩ : ∃ x, (lotsTo l k).getLastD 0 = x := ⟨_, rfl⟩
    have hlast : (lotsTo l k)[p]? = some x := by
      rw [← hx]
      have : (lotsTo l k).getLast? = (lotsTo l k)[(lotsTo l k).length - 1]? := List.getLast?_eq_getElem? ..
      rw [hp] at this
      rw [show p + 1 - 1 = p by omega] at this
      rw [← this, List.getLastD_eq_getLast?]
      cases hg : (lotsTo l k).getLast? with
      | none => rw [List.getLast?_eq_none_iff] at hg; rw [hg] at hp; simp at hp
      | some y => rfl
    have hcell : wr.cell? ⟨g, p, none⟩ = some (.int .i64 (x : Nat)) := by
      rw [hown.cellAt p (by omega)]
      simp [ints, hlast]
    rw [hx] at f3
    have hpk : p ≤ k := by omega
    by_cases hlt : k < l.length
    · have hnext : lotsTo l (k + 1) = if alikeB (part l x (k + 1)) = true then lotsTo l k else lotsTo l k ++ [k] := by
        show (if alikeB (part l ((lotsTo l k).getLastD 0) (k + 1)) = true then lotsTo l k else lotsTo l k ++ [k]) = _
        rw [hx]
      have Hown := Lib.hid hown
      have Hnext := Lib.hid hnext
      have hg := (hown.lt g rfl)
      clear hown hnext hlast hx
      generalize lotsTo l k = o at *
      rw [hp]
      have Hp := Lib.hid hp
      clear hp
      have hk0 : (0 : Int) ≤ (k : Int) := by omega
      have hx0 : (0 : Int) ≤ (x : Int) := by omega
      have hx1 : (x : Int) ≤ (k : Int) + 1 := by omega
      have hk1 : (k : Int) + 1 ≤ (cap : Int) := by omega
      have hp0 : (0 : Int) ≤ (p : Int) := by omega
      have hps : SpsAt wr (.slice (some ⟨b, off + x * 2, none⟩) (k + 1 - x) (cap - x)) (part l x (k + 1)) := (Hl.out.below hB).part (by omega) _ _ rfl
      have hpl := part_length (l := l) (a := x) (e := k + 1) (by omega)
      cases hq : alikeB (part l x (k + 1)) with
      | true =>
        have Hq := Lib.hid hq
        have Hn : Hid (lotsTo l (k + 1) = o) := by show _ = _; rw [Hnext.out, hq, if_pos rfl]
        have Hps := Lib.hid hps
        clear hq hps Hnext
        go_wp2_with fail
        refine (alike_is _ (part l x (k + 1)) _ Hps.out (by omega) (by omega) Hq.out).mono ?_
        rintro e w2 ⟨rfl, hB3⟩
        have hown2 := Hown.out.kept (grown_of_below hB3 none) (.inr (by simp [Value.ownBlock]))
        have Hown2 := Lib.hid hown2
        have hB4 := below_trans hB hB3
        clear hB3 hB hown2 Hown
        go_wp2_with fail
        go_roundw
        case rel => exact ⟨k + 1, g, c, by omega, by go_num, by rw [Hn.out, Hp.out], by rw [Hn.out]; exact Hown2.out, hB4⟩
        case measure => simp [intOf]; omega
      | false =>
        have Hq := Lib.hid hq
        have Hn : Hid (lotsTo l (k + 1) = o ++ [k]) := by show _ = _; rw [Hnext.out, hq, if_neg (by simp)]
        have Hps := Lib.hid hps
        clear hq hps Hnext
        go_wp2_with fail
        refine (alike_is _ (part l x (k + 1)) _ Hps.out (by omega) (by omega) Hq.out).mono ?_
        rintro e w2 ⟨rfl, hB3⟩
        have hown2 := Hown.out.kept (grown_of_below hB3 none) (.inr (by simp [Value.ownBlock]))
        have hB4 := below_trans hB hB3
        have hin : (ints o).length = p + 1 := by simp only [ints, List.length_map]; exact Hp.out
        clear hB3 hB Hown
        have Hown2 := Lib.hid hown2
        rw [Hp.out] at hown2
        have Hown3 := Lib.hid hown2
        clear hown2
        go_wp2_with (at_builtin; refine wpList_append_lies _ rfl _ _ 52 rfl w.heap.size 3 i0 _ 1 8 Try.underlying52 hi0 hz0 hz1 hz2 rfl (by omega) _ (p + 1) (ints o) rfl (Hown3.out.alloc _) ⟨w2.heap.size, 0, none⟩ 1 1 [.int .i64 (k : Int)] rfl rfl (World.news_of_block (cs := #[.int .i64 (k : Int)]) (t := 3) (fr := (0, 0)) (heap_alloc_new w2 _)) (by simp [Value.oneCell']) (by omega) (by unfold maxLen; omega) (by omega) (by have := hB4.size; simp; omega) _ rfl ?_)
        intro g2 c2 w3 hown4 hgrow _ hlt4
        have hB5 := below_row' (hB4.alloc hB4.size _) (Hown3.out.alloc _) (Nat.le_refl _) hgrow
        have hol : (o ++ [k]).length = p + 1 + 1 := by rw [List.length_append, Hp.out]; rfl
        have hint : ints (o ++ [k]) = ints o ++ [.int .i64 (k : Int)] := by simp [ints]
        have Hol := Lib.hid hol
        have Hint := Lib.hid hint
        have Hown4 := Lib.hid hown4
        clear hown4 hgrow hB4 hol hint
        go_wp2_with fail
        go_roundw
        case rel => exact ⟨k + 1, g2, c2, by omega, by go_num, by rw [Hn.out, Hol.out], by rw [Hn.out, Hol.out, Hint.out]; exact Hown4.out, hB5⟩
        case measure => simp [intOf]; omega
    · obtain rfl : k = l.length := by omega
      have hg := (hown.lt g rfl)
      have hcap2 : (lotsTo l l.length).length ≤ c := by
        rcases hown.2 with ⟨hv, _⟩ | ⟨g', c', cur, hv, _, _, hc, _⟩
        · cases hv
        · injection hv with _ _ hv
          omega
      have hres : ∀ i n, (lotsTo l l.length)[i]? = some n → wr.cell? ⟨g, i, none⟩ = some (.int .i64 (n : Nat)) := by
        intro i n hi
        have hil := (List.getElem?_eq_some_iff.1 hi).1
        rw [hown.cellAt i (by omega)]
        simp [ints, hi]
      have Hres := Lib.hid hres
      clear hres hown hcell hlast hx hp
      go_wp2_with fail
      go_ret2
      exact ⟨g, rfl, Hres.out, hB⟩

end Go.Proofs.Ythpllmefbhjmmaa
