/- Contracts of package slot: Length, far, check. -/
import Derived.Test.YtdbogephaddbjaaRleD
import Derived.Tactics
import Derived.Tactics2
import Derived.WalkKit
import Derived.LoopTactic
import Derived.WalkLawsBesides
import Derived.WalkSpells
import Derived.Outline
import Derived.Deep.QuietTactic
import Derived.BigQuiet
import Derived.Deep.DeepCutAuto
import Derived.Deep.LoopGhost
import Derived.Deep.RegionHeld3
import Derived.RegionTactic
import Derived.KernelRfl
import Derived.Lib.Hide
set_option linter.unusedVariables false
set_option linter.unusedSimpArgs false
namespace Go.Proofs.Ytdbogephaddbjaa
open Go.RowKit

set_option maxHeartbeats 1000000 in
/-- slices.IndexFunc over legs, at a function value that keeps what J says. -/
theorem indexFunc_leg (A : Option Addr) (L : List Leg) (cap g : Nat) (caps : Array Value) (q : Nat → Bool) (J : Nat → World → Prop) (w : World) (hn : L.length ≤ 1000000)
    (hg : Enters Try.prog g)
    (hr : ∀ i W, J i W → Legs W W.heap.size A L)
    (hJ : J 0 w)
    (hs : ∀ i (x : Leg) W, L[i]? = some x → J i W → Calls Try.prog g (#[.agg #[.int .i64 x.d, .int .i64 x.v.m, .int .i64 x.v.c]] ++ caps) W fun e W' => e = .returned (.bool (q i)) ∧ J (i + 1) W') :
    Calls Try.prog 76 #[.slice A L.length cap, .func (.func g) #[] caps] w (IdxPost L.length q J) := by
  unfold Enters at hg
  go_enter Try.func76, Try.ntmps76
  go_wp2
  go_loopw [5, 8] (fun _ i W => ∃ k : Nat, k ≤ L.length ∧ i = .int .i64 k ∧ J k W ∧ ((List.range k).all fun i => !q i) = true) (fun _ i _ => L.length - (intOf i).toNat)
  case atStart => exact ⟨0, Nat.zero_le _, rfl, hJ, rfl⟩
  case round =>
    obtain ⟨k, hk, rfl, hJk, hall⟩ := hrel
    have Hall := Lib.hid hall
    clear hall
    by_cases hlt : k < L.length
    · have hx : L[k]? = some L[k] := List.getElem?_eq_getElem hlt
      have hsk := hs k _ _ hx hJk
      obtain ⟨b, off, rfl, hb, hc0, hc1, hc2⟩ := (hr k _ hJk).leg hx
      generalize L[k] = x at *
      have Hx := Lib.hid hx
      clear hr hs hx hJ
      cases hq : q k with
      | true =>
        rw [hq] at hsk
        have Hq := Lib.hid hq
        clear hq
        go_wp2_with ((refine hsk.mono ?_; clear hsk; rintro e w1 ⟨rfl, hJ1⟩))
        go_ret
        exact IdxPost.yes hlt Hq.out hJ1
      | false =>
        rw [hq] at hsk
        have Hq := Lib.hid hq
        clear hq
        go_wp2_with ((refine hsk.mono ?_; clear hsk; rintro e w1 ⟨rfl, hJ1⟩))
        go_roundw
        case rel =>
          refine ⟨k + 1, by omega, by go_num, hJ1, ?_⟩
          rw [List.range_succ, List.all_append, Hall.out]
          simp [Hq.out]
        case measure => simp [intOf]; omega
    · clear hr hs hJ
      go_wp2
      go_ret
      obtain rfl : k = L.length := by omega
      exact IdxPost.no Hall.out hJk

set_option maxHeartbeats 1000000 in
theorem containsFunc_leg (A : Option Addr) (L : List Leg) (cap g : Nat) (caps : Array Value) (q : Nat → Bool) (J : Nat → World → Prop) (w : World) (hn : L.length ≤ 1000000)
    (hg : Enters Try.prog g)
    (hr : ∀ i W, J i W → Legs W W.heap.size A L)
    (hJ : J 0 w)
    (hs : ∀ i (x : Leg) W, L[i]? = some x → J i W → Calls Try.prog g (#[.agg #[.int .i64 x.d, .int .i64 x.v.m, .int .i64 x.v.c]] ++ caps) W fun e W' => e = .returned (.bool (q i)) ∧ J (i + 1) W') :
    Calls Try.prog 53 #[.slice A L.length cap, .func (.func g) #[] caps] w (HasPost L.length q J) := by
  have hi := indexFunc_leg A L cap g caps q J w hn hg hr hJ hs
  clear hr hJ hs hg
  go_enter Try.func53, Try.ntmps53
  go_wp2_with (go_at_call 76; refine hi.mono ?_; clear hi; rintro e w1 ⟨r, rfl, hd, k, hJ1⟩; have Hd := Lib.hid hd; clear hd)
  go_ret
  exact HasPost.mk Hd.out hJ1

/-! ### slot.Length, far, check -/
set_option maxHeartbeats 400000 in
theorem slot_far (t : Int) (w : World) : Calls Try.prog 52 #[.int .i64 t] w fun e w' => e = .returned (.bool (decide (t < -1099511627776 ∨ 1099511627776 < t))) ∧ w = w' := by
  by_cases h1 : t < -1099511627776
  · go_enter Try.func52, Try.ntmps52
    go_wp2
    go_ret
    exact ⟨ret_bool (by simp [h1]), rfl⟩
  · by_cases h2 : 1099511627776 < t
    · go_enter Try.func52, Try.ntmps52
      go_wp2
      go_ret
      exact ⟨ret_bool (by simp [h2]), rfl⟩
    · go_enter Try.func52, Try.ntmps52
      go_wp2
      go_ret
      exact ⟨ret_bool (by simp [h1, h2]), rfl⟩

def dOk (x : Leg) : Bool := decide (1 ≤ x.d ∧ x.d ≤ 4096)
def sumD (L : List Leg) : Int := (L.map (·.d)).sum
theorem sumD_snoc (L : List Leg) (x : Leg) : sumD (L ++ [x]) = sumD L + x.d := by simp [sumD]
theorem sumD_bd : ∀ (L : List Leg), L.all dOk = true → 0 ≤ sumD L ∧ sumD L ≤ 4096 * L.length
  | [], _ => by simp [sumD]
  | x :: xs, h => by
    rw [List.all_cons, Bool.and_eq_true] at h
    have h1 := of_decide_eq_true h.1
    have h2 := sumD_bd xs h.2
    simp only [sumD, List.map_cons, List.sum_cons, List.length_cons] at *
    omega
/-- slot.Length. -/
def lenF (L : List Leg) : Int × Int := if L.all dOk ∧ 1 ≤ L.length ∧ L.length ≤ 16 then (sumD L, 0) else (0, 2)

set_option maxHeartbeats 1000000 in
theorem slot_length (A : Option Addr) (L : List Leg) (cap : Nat) (w : World) (hn : L.length ≤ 1000000) (hr : Legs w w.heap.size A L) :
    Calls Try.prog 25 #[.slice A L.length cap] w fun e w' => e = .returned (.tuple #[.int .i64 (lenF L).1, .int .i64 (lenF L).2]) ∧ Below w.heap.size w w' := by
  go_enter Try.func25, Try.ntmps25
  go_wp2
  go_loopw [4, 6, 9] (fun n _ i W => ∃ k : Nat, k ≤ L.length ∧ i = .int .i64 k ∧ (L.take k).all dOk = true ∧ n = .int .i64 (sumD (L.take k)) ∧ Below w.heap.size w W) (fun _ _ i _ => L.length - (intOf i).toNat)
  case atStart => exact ⟨0, Nat.zero_le _, rfl, rfl, rfl, by (repeat (first | exact bl_refl | assumption | apply bl_alloc | apply bl_drew | apply bl_drewN | (apply bl_set; (case hp => first | (simp; done) | (simp; omega))) | (apply bl_trans2; (case k => assumption))))⟩
  case round =>
    obtain ⟨k, hk, rfl, hall, rfl, hb⟩ := hrel
    have hbd := sumD_bd _ hall
    rw [List.length_take] at hbd
    have hbd1 : 0 ≤ sumD (L.take k) := hbd.1
    have hbd2 : sumD (L.take k) ≤ 4096000000 := by omega
    have Hall := Lib.hid hall
    clear hall hbd
    by_cases hlt : k < L.length
    · have hx : L[k]? = some L[k] := List.getElem?_eq_getElem hlt
      obtain ⟨b, off, rfl, hbl, hc0, hc1, hc2⟩ := (hr.below hb).leg hx
      generalize L[k] = x at *
      have Hx := Lib.hid hx
      clear hr hx
      have bad : dOk x = false → lenF L = (0, 2) := fun h => by
        have : L.all dOk = false := by
          rw [List.all_eq_false]
          exact ⟨x, List.mem_of_getElem? Hx.out, by simp [h]⟩
        unfold lenF
        rw [this]
        simp
      have Hbad := Lib.hid bad
      clear bad
      by_cases h1 : x.d < 1
      · go_wp2
        go_ret2
        have := Hbad.out (by unfold dOk; simp; omega)
        exact ⟨by rw [this]; rfl, by (repeat (first | exact bl_refl | assumption | apply bl_alloc | apply bl_drew | apply bl_drewN | (apply bl_set; (case hp => first | (simp; done) | (simp; omega))) | (apply bl_trans2; (case k => assumption))))⟩
      · by_cases h2 : 4096 < x.d
        · go_wp2
          go_ret2
          have := Hbad.out (by unfold dOk; simp; omega)
          exact ⟨by rw [this]; rfl, by (repeat (first | exact bl_refl | assumption | apply bl_alloc | apply bl_drew | apply bl_drewN | (apply bl_set; (case hp => first | (simp; done) | (simp; omega))) | (apply bl_trans2; (case k => assumption))))⟩
        · go_wp2
          go_roundw
          case rel =>
            have ht := take_snoc Hx.out
            refine ⟨k + 1, by omega, by go_num, ?_, ?_, by (repeat (first | exact bl_refl | assumption | apply bl_alloc | apply bl_drew | apply bl_drewN | (apply bl_set; (case hp => first | (simp; done) | (simp; omega))) | (apply bl_trans2; (case k => assumption))))⟩
            · rw [ht, List.all_append, Hall.out]
              simp [dOk]; omega
            · rw [ht, sumD_snoc]
          case measure => first | (simp [intOf]; done) | (simp [intOf]; omega)
    · obtain rfl : k = L.length := by omega
      rw [List.take_length] at Hall hbd1 hbd2 ⊢
      by_cases h1 : L.length = 0
      · have e1 : ((L.length : Int) == 0) = true := by rw [h1]; rfl
        have hl : lenF L = (0, 2) := by unfold lenF; exact if_neg (by rintro ⟨_, h3, h4⟩; omega)
        clear hr h1
        go_wp2
        go_ret2
        exact ⟨by rw [hl]; rfl, by (repeat (first | exact bl_refl | assumption | apply bl_alloc | apply bl_drew | apply bl_drewN | (apply bl_set; (case hp => first | (simp; done) | (simp; omega))) | (apply bl_trans2; (case k => assumption))))⟩
      · have e1 : ((L.length : Int) == 0) = false := by rw [beq_eq_false_iff_ne]; omega
        by_cases h2 : 16 < L.length
        · have hl : lenF L = (0, 2) := by unfold lenF; exact if_neg (by rintro ⟨_, h3, h4⟩; omega)
          have e2 : (16 : Int) < L.length := by omega
          clear hr
          go_wp2
          go_ret2
          exact ⟨by rw [hl]; rfl, by (repeat (first | exact bl_refl | assumption | apply bl_alloc | apply bl_drew | apply bl_drewN | (apply bl_set; (case hp => first | (simp; done) | (simp; omega))) | (apply bl_trans2; (case k => assumption))))⟩
        · have hl : lenF L = (sumD L, 0) := by unfold lenF; exact if_pos ⟨Hall.out, by omega, by omega⟩
          have Hl := Lib.hid hl
          have e2 : ¬ (16 : Int) < L.length := by omega
          clear hr hl
          go_wp2
          go_ret2
          exact ⟨by rw [Hl.out]; rfl, by (repeat (first | exact bl_refl | assumption | apply bl_alloc | apply bl_drew | apply bl_drewN | (apply bl_set; (case hp => first | (simp; done) | (simp; omega))) | (apply bl_trans2; (case k => assumption))))⟩

end Go.Proofs.Ytdbogephaddbjaa
