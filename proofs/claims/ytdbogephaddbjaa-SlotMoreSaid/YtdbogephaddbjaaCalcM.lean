/- calc.may, plain, sum: what stands ahead of calc's joints. -/
import Derived.Test.YtdbogephaddbjaaRleD
import Derived.Tactics
import Derived.Tactics2
import Derived.WalkKit
import Derived.LoopTactic
import Derived.WalkLawsBesides
import Derived.WalkSpells
import Derived.Outline
import Derived.Deep.QuietTactic
import Derived.BigQuiet
import Derived.Deep.DeepCutAuto
import Derived.Deep.LoopGhost
import Derived.Deep.RegionHeld3
import Derived.RegionTactic
import Derived.KernelRfl
import Derived.Lib.Hide
set_option linter.unusedVariables false
set_option linter.unusedSimpArgs false
namespace Go.Proofs.Ytdbogephaddbjaa
open Go.RowKit

set_option maxHeartbeats 1000000 in
/-- calc.may over a row of functions. -/
theorem calc_may (b off cap : Nat) (ls : List (Option Addr × List Seg × Nat)) (w : World) (hn : ls.length ≤ 1000000)
    (hl : ∀ i x, ls[i]? = some x → x.2.1.length ≤ 1000000 ∧ w.cell? ⟨b, off + i, none⟩ = some (.slice x.1 x.2.1.length x.2.2) ∧ Segs w w.heap.size x.1 x.2.1) :
    Calls Try.prog 43 #[.slice (some ⟨b, off, none⟩) ls.length cap] w fun e w' => e = .returned (.bool (ls.all fun x => mayF x.2.1)) ∧ Below w.heap.size w w' := by
  go_enter Try.func43, Try.ntmps43
  go_wp2
  go_loopw [4, 7] (fun _ i W => ∃ k : Nat, k ≤ ls.length ∧ i = .int .i64 k ∧ Below w.heap.size w W ∧ ((ls.take k).all fun x => mayF x.2.1) = true) (fun _ i _ => ls.length - (intOf i).toNat)
  case atStart => exact ⟨0, Nat.zero_le _, rfl, by (repeat (first | exact bl_refl | assumption | apply bl_alloc | apply bl_drew | apply bl_drewN | (apply bl_set; (case hp => first | (simp; done) | (simp; omega))) | (apply bl_trans2; (case k => assumption)))), rfl⟩
  case round =>
    obtain ⟨k, hk, rfl, hb, hall⟩ := hrel
    have Hall := Lib.hid hall
    clear hall
    by_cases hlt : k < ls.length
    · have hx : ls[k]? = some ls[k] := List.getElem?_eq_getElem hlt
      obtain ⟨h1, h2, h3⟩ := hl k _ hx
      obtain ⟨x, hxx⟩ : ∃ x, ls[k] = x := ⟨_, rfl⟩
      rw [hxx] at hx h1 h2 h3
      clear hxx
      obtain ⟨A, L, c⟩ := x
      try dsimp only at h1 h2 h3
      have h2' := bl_cell hb h2
      have h3' := h3.bl hb
      have Hx := Lib.hid hx
      clear hl hx h2 h3
      cases hm : mayF L with
      | true =>
        have hc := rle_may A L c wr h1 h3'
        rw [hm] at hc
        have Hm := Lib.hid hm
        clear hm h3'
        go_wp2_with (go_at_call 39; refine hc.mono ?_; clear hc; rintro e w1 ⟨rfl, hb1⟩)
        go_roundw
        case rel =>
          refine ⟨k + 1, by omega, by go_num, by (repeat (first | exact bl_refl | assumption | apply bl_alloc | apply bl_drew | apply bl_drewN | (apply bl_set; (case hp => first | (simp; done) | (simp; omega))) | (apply bl_trans2; (case k => assumption)))), ?_⟩
          rw [take_snoc Hx.out, List.all_append, Hall.out]
          simp [Hm.out]
        case measure => first | (simp [intOf]; done) | (simp [intOf]; omega)
      | false =>
        have hc := rle_may A L c wr h1 h3'
        rw [hm] at hc
        have Hm := Lib.hid hm
        clear hm h3'
        go_wp2_with (go_at_call 39; refine hc.mono ?_; clear hc; rintro e w1 ⟨rfl, hb1⟩)
        go_ret
        refine ⟨ret_bool ?_, by (repeat (first | exact bl_refl | assumption | apply bl_alloc | apply bl_drew | apply bl_drewN | (apply bl_set; (case hp => first | (simp; done) | (simp; omega))) | (apply bl_trans2; (case k => assumption))))⟩
        have : (ls.all fun x => mayF x.2.1) = false := by
          rw [List.all_eq_false]
          exact ⟨_, List.mem_of_getElem? Hx.out, by simp [Hm.out]⟩
        rw [this]
    · clear hl
      go_wp2
      go_ret
      refine ⟨ret_bool ?_, hb⟩
      have := Hall.out
      rw [List.take_of_length_le (by omega)] at this
      rw [this]

set_option maxHeartbeats 400000 in
theorem plain1 (bx : Nat) (g : Nat) (φ : Vec → Vec → Vec) (hg : Enters Try.prog g) (m c m' c' : Int) (w : World) (hb : Bx w bx [.func (.func g) #[] #[]])
    (hc : ∀ m c m' c' W, Calls Try.prog g #[.agg #[.int .i64 m, .int .i64 c], .agg #[.int .i64 m', .int .i64 c']] W fun e W' => e = .returned (.agg #[.int .i64 (φ ⟨m, c⟩ ⟨m', c'⟩).m, .int .i64 (φ ⟨m, c⟩ ⟨m', c'⟩).c]) ∧ Below W.heap.size W W') :
    Calls Try.prog 57 #[.agg #[.int .i64 m, .int .i64 c], .agg #[.int .i64 m', .int .i64 c'], .pointer (some ⟨bx, 0, none⟩)] w fun e w' =>
      e = .returned (.tuple #[.agg #[.int .i64 (φ ⟨m, c⟩ ⟨m', c'⟩).m, .int .i64 (φ ⟨m, c⟩ ⟨m', c'⟩).c], .int .i64 0]) ∧ Below w.heap.size w w' := by
  unfold Enters at hg
  obtain ⟨h1, h2, h3⟩ := hb.one
  have h1' : (((w.alloc (.cells #[.int .i64 m, .int .i64 c] 51)).alloc (.cells #[.int .i64 m', .int .i64 c'] 51)).alloc (.cells #[.int .i64 0, .int .i64 0] 51)).cell? ⟨bx, 0, none⟩ = some (.func (.func g) #[] #[]) := bl_cell (by (repeat (first | exact bl_refl | assumption | apply bl_alloc | apply bl_drew | apply bl_drewN | (apply bl_set; (case hp => first | (simp; done) | (simp; omega))) | (apply bl_trans2; (case k => assumption))))) h1
  clear h1
  go_enter Try.func57, Try.ntmps57
  go_wp2_with (refine (hc _ _ _ _ _).mono ?_; clear hc; rintro e w1 ⟨rfl, hb1⟩; obtain ⟨hc1, hf1⟩ := bcell hb1; have hz1 := hb1.size)
  simp at hz1
  exact bodyPost_ret (v := .tuple #[.agg #[.int .i64 (φ ⟨m, c⟩ ⟨m', c'⟩).m, .int .i64 (φ ⟨m, c⟩ ⟨m', c'⟩).c], .int .i64 0]) (by simp [results, Try.results57, go_sem, hc1, hf1, hz1]) rfl ⟨rfl, by (repeat (first | exact bl_refl | assumption | apply bl_alloc | apply bl_drew | apply bl_drewN | (apply bl_set; (case hp => first | (simp; done) | (simp; omega))) | (apply bl_trans2; (case k => assumption))))⟩
theorem plain1_in : Enters Try.prog 57 := fun _ _ => by kernel_rfl

end Go.Proofs.Ytdbogephaddbjaa
