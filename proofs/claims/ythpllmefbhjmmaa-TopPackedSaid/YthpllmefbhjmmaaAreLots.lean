/-
  'AreLots' at lots that are right.
-/
import Derived.Test.YthpllmefbhjmmaaLotsLaw
namespace Go.Proofs.Ythpllmefbhjmmaa
open Go.RowKit Go.Maps Plain
attribute [local go_sem] Oper.semAt_some

set_option maxRecDepth 100000 in
set_option maxHeartbeats 1600000 in
theorem areLots_good (b off cap : Nat) (l : List Sp) (g c : Nat) (o : List Nat) (w : World) (hl : SpsAt w (.slice (some ⟨b, off, none⟩) l.length cap) l) (hcap : l.length ≤ cap) (h : loadsB l = true)
    (ho : ∀ i n, o[i]? = some n → w.cell? ⟨g, i, none⟩ = some (.int .i64 (n : Nat))) (hok : LotsOk l o l.length) :
    Calls Try.prog 32 #[.slice (some ⟨b, off, none⟩) l.length cap, .slice (some ⟨g, 0, none⟩) o.length c] w fun e w' => e = .returned (.tuple #[.bool true, .int .i64 0]) ∧ Below w.heap.size w w' := by
  have h' := h
  unfold loadsB at h'
  rw [Bool.and_eq_true] at h'
  obtain ⟨l1, l2⟩ := inB_true h'.1
  obtain ⟨k1, k2, k3⟩ := hok
  have Hl := Lib.hid hl
  have H := Lib.hid h
  have Ho := Lib.hid ho
  have H3 := Lib.hid k3
  have hol : 0 < o.length := (List.getElem?_eq_some_iff.1 k2).1
  have hz := ho 0 0 k2
  have hgl : g < w.heap.size := World.block_lt_of_cell? w _ hz
  have hne : ((o.length : Int) == 0) = false := beq_eq_false_iff_ne.2 (by omega)
  clear hl h h' ho k3 k2
  go_enter Try.func32, Try.ntmps32
  go_wp2_with fail
  refine (areLoads_is _ l _ Hl.out (by omega) H.out).mono ?_
  rintro e w1 ⟨rfl, hB1⟩
  have hz1 := (World.cell?_of_block (a := ⟨g, 0, none⟩) (hB1.block _ hgl)).trans hz
  clear hz
  go_wp2_with fail
  go_loopw [23] (fun i wr => ∃ k : Nat, k ≤ o.length ∧ i = .int .i64 k ∧ Below w.heap.size w wr) (fun i _ => o.length - (intOf i).toNat)
  case atStart => exact ⟨0, by omega, rfl, hB1⟩
  case round =>
    obtain ⟨k, hk, rfl, hB⟩ := hrel
    by_cases hlt : k < o.length
    · obtain ⟨x, hx⟩ : ∃ x, o[k]? = some x := ⟨_, List.getElem?_eq_getElem hlt⟩
      obtain ⟨a1, a2, a3⟩ := H3.out k x hx
      have c0 := (World.cell?_of_block (a := ⟨g, k, none⟩) (hB.block _ hgl)).trans (Ho.out k x hx)
      have hn0 : (0 : Int) ≤ (k : Int) := by omega
      have hn1 : (k : Int) < (o.length : Int) := by omega
      have hx0 : (0 : Int) ≤ (x : Int) := by omega
      clear hz1 hne hx
      by_cases hlt2 : k + 1 < o.length
      · have hn2 : (k : Int) + 1 < (o.length : Int) := by omega
        have hn3 : (0 : Int) ≤ (k : Int) + 1 := by omega
        have hd : decide ((k : Int) + 1 < (o.length : Int)) = true := by simpa using hn2
        obtain ⟨e, he⟩ : ∃ e, lotEnd o l.length k = e := ⟨_, rfl⟩
        have he2 : o[k + 1]? = some e := by
          rw [← he]; unfold lotEnd; rw [List.getD_eq_getElem?_getD, List.getElem?_eq_getElem hlt2]; rfl
        have c1 := (World.cell?_of_block (a := ⟨g, k + 1, none⟩) (hB.block _ hgl)).trans (Ho.out (k + 1) e he2)
        rw [he] at a1 a2 a3
        have hps : SpsAt wr (.slice (some ⟨b, off + x * 2, none⟩) (e - x) (cap - x)) (part l x e) := (Hl.out.below hB).part a2 _ _ rfl
        have hpl := part_length (l := l) (a := x) (e := e) a2
        have Hps := Lib.hid hps
        have Ha := Lib.hid a3
        have hi1 : (x : Int) ≤ (e : Int) := by omega
        have hi2 : (e : Int) ≤ (cap : Int) := by omega
        have iw := inB_mk (n := (e : Int)) (lo := (x : Int) + 1) (hi := (l.length : Int)) ⟨by omega, by omega⟩
        have hw := within86 e ((x : Int) + 1) l.length
        rw [iw] at hw
        have Hw := Lib.hid hw
        clear hps a3 iw hw he he2
        go_wp2_with fail
        refine (Hw.out _).mono ?_
        rintro ee w2 ⟨rfl, rfl⟩
        go_wp2_with fail
        refine (alike_is _ (part l x e) _ Hps.out (by omega) (by omega) Ha.out).mono ?_
        rintro ee w3 ⟨rfl, hB3⟩
        have hB4 := below_trans hB hB3
        clear hB3 hB
        go_wp2_with fail
        go_roundw
        case rel => exact ⟨k + 1, by omega, by go_num, hB4⟩
        case measure => simp [intOf]; omega
      · have hd : decide ((k : Int) + 1 < (o.length : Int)) = false := by simp; omega
        have he : lotEnd o l.length k = l.length := by unfold lotEnd; rw [List.getD_eq_getElem?_getD, List.getElem?_eq_none (by omega)]; rfl
        rw [he] at a1 a2 a3
        have hps : SpsAt wr (.slice (some ⟨b, off + x * 2, none⟩) (l.length - x) (cap - x)) (part l x l.length) := (Hl.out.below hB).part a2 _ _ rfl
        have hpl := part_length (l := l) (a := x) (e := l.length) a2
        have Hps := Lib.hid hps
        have Ha := Lib.hid a3
        have hi1 : (x : Int) ≤ (l.length : Int) := by omega
        have hi2 : (l.length : Int) ≤ (cap : Int) := by omega
        have iw := inB_mk (n := (l.length : Int)) (lo := (x : Int) + 1) (hi := (l.length : Int)) ⟨by omega, by omega⟩
        have hw := within86 l.length ((x : Int) + 1) l.length
        rw [iw] at hw
        have Hw := Lib.hid hw
        clear hps a3 iw hw he
        go_wp2_with fail
        refine (Hw.out _).mono ?_
        rintro ee w2 ⟨rfl, rfl⟩
        go_wp2_with fail
        refine (alike_is _ (part l x l.length) _ Hps.out (by omega) (by omega) Ha.out).mono ?_
        rintro ee w3 ⟨rfl, hB3⟩
        have hB4 := below_trans hB hB3
        clear hB3 hB
        go_wp2_with fail
        go_roundw
        case rel => exact ⟨k + 1, by omega, by go_num, hB4⟩
        case measure => simp [intOf]; omega
    · obtain rfl : k = o.length := by omega
      go_wp2_with fail
      go_ret2
      exact ⟨rfl, hB⟩

end Go.Proofs.Ythpllmefbhjmmaa
