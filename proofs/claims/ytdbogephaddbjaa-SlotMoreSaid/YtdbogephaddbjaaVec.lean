/- Contracts of package vec, for every input: what each function answers, and that old memory stays. -/
import Derived.Test.YtdbogephaddbjaaBase
import Derived.Tactics
import Derived.Tactics2
import Derived.WalkKit
import Derived.LoopTactic
import Derived.WalkLawsBesides
import Derived.WalkSpells
import Derived.Outline
import Derived.Deep.QuietTactic
import Derived.BigQuiet
import Derived.Deep.DeepCutAuto
import Derived.Deep.LoopGhost
import Derived.Deep.RegionHeld3
import Derived.RegionTactic
import Derived.KernelRfl
import Derived.Lib.Hide
set_option linter.unusedVariables false
set_option linter.unusedSimpArgs false
namespace Go.Proofs.Ytdbogephaddbjaa
open Go.RowKit

def fitB (m : Int) : Bool := decide (-1125899906842624 ≤ m ∧ m ≤ 1125899906842624)
theorem fitB_lo {m : Int} (h : m < -1125899906842624) : fitB m = false := by unfold fitB; simp; omega
theorem fitB_hi {m : Int} (h : 1125899906842624 < m) : fitB m = false := by unfold fitB; simp; omega
theorem fitB_in {m : Int} (h : -1125899906842624 ≤ m) (h' : m ≤ 1125899906842624) : fitB m = true := by unfold fitB; simp; omega

set_option maxHeartbeats 400000 in
/-- vec.fits over a list of numbers. -/
theorem vec_fits (b off n cap : Nat) (zs : Nat → Int) (w : World) (hn : n ≤ 1000000) (hz : ∀ i, i < n → w.cell? ⟨b, off + i, none⟩ = some (.int .i64 (zs i))) :
    Calls Try.prog 75 #[.slice (some ⟨b, off, none⟩) n cap] w fun e w' => e = .returned (.bool ((List.range n).all fun i => fitB (zs i))) ∧ w = w' := by
  go_enter Try.func75, Try.ntmps75
  go_wp2
  go_loop [7] (fun i => ∃ k : Nat, k ≤ n ∧ i = .int .i64 k ∧ ((List.range k).all fun i => fitB (zs i)) = true) (fun i => n - (intOf i).toNat)
  case atStart => exact ⟨0, Nat.zero_le _, rfl, rfl⟩
  case round =>
    obtain ⟨k, hk, rfl, hall⟩ := hrel
    have Hall := Lib.hid hall
    clear hall
    by_cases hlt : k < n
    · have hc := hz k hlt
      clear hz
      have no : fitB (zs k) = false → ((List.range n).all fun i => fitB (zs i)) = false := fun h => by
        rw [List.all_eq_false]
        exact ⟨k, by simp [hlt], by simp [h]⟩
      have Hno := Lib.hid no
      clear no
      by_cases h1 : zs k < -1125899906842624
      · go_wp2
        go_ret
        exact ⟨ret_bool (Hno.out (fitB_lo h1)).symm, rfl⟩
      · by_cases h2 : 1125899906842624 < zs k
        · go_wp2
          go_ret
          exact ⟨ret_bool (Hno.out (fitB_hi h2)).symm, rfl⟩
        · go_wp2
          go_round
          case rel =>
            refine ⟨k + 1, by omega, by go_num, ?_⟩
            rw [List.range_succ, List.all_append, Hall.out]
            simp [fitB_in (by omega : -1125899906842624 ≤ zs k) (by omega)]
          case measure => simp [intOf]; omega
    · clear hz
      go_wp2
      go_ret
      obtain rfl : k = n := by omega
      rw [Hall.out]
      exact ⟨rfl, rfl⟩

/-- A vector that may be. -/
def mayV (m c : Int) : Bool := fitB m && fitB c

theorem mayV_eq (m c : Int) : ((List.range 2).all fun i => fitB (if i = 0 then m else c)) = mayV m c := by
  simp [List.range_succ, mayV]

set_option maxHeartbeats 400000 in
theorem vec_may (m c : Int) (w : World) :
    Calls Try.prog 51 #[.agg #[.int .i64 m, .int .i64 c]] w fun e w' => e = .returned (.bool (mayV m c)) ∧ Below w.heap.size w w' := by
  go_enter Try.func51, Try.ntmps51
  go_wp2_with fail
  refine (vec_fits _ 0 _ _ (fun i => if i = 0 then m else c) _ (by omega) ?_).mono ?_
  · intro i hi
    obtain rfl | rfl : i = 0 ∨ i = 1 := by omega
    · simp
    · simp
  · rintro e w' ⟨rfl, rfl⟩
    have he := mayV_eq m c
    rw [he]
    clear he
    go_wp2
    go_ret
    exact ⟨rfl, by (repeat (first | exact bl_refl | assumption | apply bl_alloc | apply bl_drew | apply bl_drewN | (apply bl_set; (case hp => first | (simp; done) | (simp; omega))) | (apply bl_trans2; (case k => assumption))))⟩

set_option maxHeartbeats 400000 in
/-- vec.both at a pure function on numbers. -/
theorem both_int (g : Nat) (φ : Int → Int → Int) (hg : Enters Try.prog g)
    (hc : ∀ x y W, Calls Try.prog g #[.int .i64 x, .int .i64 y] W fun e W' => e = .returned (.int .i64 (φ x y)) ∧ W' = W)
    (m c m' c' : Int) (w : World) :
    Calls Try.prog 81 #[.agg #[.int .i64 m, .int .i64 c], .agg #[.int .i64 m', .int .i64 c'], .func (.func g) #[] #[]] w fun e w' =>
      e = .returned (.tuple #[.int .i64 (φ m m'), .int .i64 (φ c c')]) ∧ Below w.heap.size w w' := by
  unfold Enters at hg
  go_enter Try.func81, Try.ntmps81
  go_wp2
  go_quiet ((exact Calls.quiet_of_same (hc _ _ _)))
  go_wp2
  go_ret2
  exact ⟨rfl, by (repeat (first | exact bl_refl | assumption | apply bl_alloc | apply bl_drew | apply bl_drewN | (apply bl_set; (case hp => first | (simp; done) | (simp; omega))) | (apply bl_trans2; (case k => assumption))))⟩

set_option maxHeartbeats 400000 in
/-- vec.both at a pure test on numbers. -/
theorem both_bool (g : Nat) (φ : Int → Int → Bool) (hg : Enters Try.prog g)
    (hc : ∀ x y W, Calls Try.prog g #[.int .i64 x, .int .i64 y] W fun e W' => e = .returned (.bool (φ x y)) ∧ W' = W)
    (m c m' c' : Int) (w : World) :
    Calls Try.prog 79 #[.agg #[.int .i64 m, .int .i64 c], .agg #[.int .i64 m', .int .i64 c'], .func (.func g) #[] #[]] w fun e w' =>
      e = .returned (.tuple #[.bool (φ m m'), .bool (φ c c')]) ∧ Below w.heap.size w w' := by
  unfold Enters at hg
  go_enter Try.func79, Try.ntmps79
  go_wp2
  go_quiet ((exact Calls.quiet_of_same (hc _ _ _)))
  go_wp2
  go_ret2
  exact ⟨rfl, by (repeat (first | exact bl_refl | assumption | apply bl_alloc | apply bl_drew | apply bl_drewN | (apply bl_set; (case hp => first | (simp; done) | (simp; omega))) | (apply bl_trans2; (case k => assumption))))⟩

set_option maxHeartbeats 400000 in
/-- vec.made at a pure function on numbers. -/
theorem vec_made (g : Nat) (φ : Int → Int → Int) (hg : Enters Try.prog g)
    (hc : ∀ x y W, Calls Try.prog g #[.int .i64 x, .int .i64 y] W fun e W' => e = .returned (.int .i64 (φ x y)) ∧ W' = W)
    (m c m' c' : Int) (w : World) :
    Calls Try.prog 58 #[.agg #[.int .i64 m, .int .i64 c], .agg #[.int .i64 m', .int .i64 c'], .func (.func g) #[] #[]] w fun e w' =>
      e = .returned (.agg #[.int .i64 (φ m m'), .int .i64 (φ c c')]) ∧ Below w.heap.size w w' := by
  have hb := both_int g φ hg hc
  clear hc hg
  go_enter Try.func58, Try.ntmps58
  go_wp2_with (go_at_call 81; refine (hb _ _ _ _ _).mono ?_; clear hb; rintro e w1 ⟨rfl, hb1⟩; obtain ⟨hc1, hf1⟩ := bcell hb1; have hz1 := hb1.size)
  simp at hz1
  exact bodyPost_ret (v := .agg #[.int .i64 (φ m m'), .int .i64 (φ c c')]) (by simp [results, Try.results58, go_sem, hc1, hf1, hz1]) rfl ⟨rfl, by (repeat (first | exact bl_refl | assumption | apply bl_alloc | apply bl_drew | apply bl_drewN | (apply bl_set; (case hp => first | (simp; done) | (simp; omega))) | (apply bl_trans2; (case k => assumption))))⟩

def leV (m c m' c' : Int) : Bool := decide (m ≤ m') && decide (c ≤ c')

set_option maxHeartbeats 400000 in
theorem le1 (x y : Int) (w : World) : Calls Try.prog 80 #[.int .i64 x, .int .i64 y] w fun e w' => e = .returned (.bool (decide (x ≤ y))) ∧ w' = w := by
  go_enter Try.func80, Try.ntmps80
  go_wp2
  go_ret
  exact ⟨rfl, rfl⟩
theorem le1_in : Enters Try.prog 80 := fun _ _ => by kernel_rfl

set_option maxHeartbeats 400000 in
theorem vec_le (m c m' c' : Int) (w : World) :
    Calls Try.prog 56 #[.agg #[.int .i64 m, .int .i64 c], .agg #[.int .i64 m', .int .i64 c']] w fun e w' =>
      e = .returned (.bool (leV m c m' c')) ∧ Below w.heap.size w w' := by
  have hb := both_bool 80 (fun x y => decide (x ≤ y)) le1_in le1
  have hl : leV m c m' c' = (decide (m ≤ m') && decide (c ≤ c')) := rfl
  by_cases h : m ≤ m'
  · have hm : decide (m ≤ m') = true := by simpa using h
    rw [hm] at hl
    simp only [Bool.true_and] at hl
    rw [hl]
    clear hl
    go_enter Try.func56, Try.ntmps56
    go_wp2_with (go_at_call 79; refine (hb _ _ _ _ _).mono ?_; clear hb; rintro e w1 ⟨rfl, hb1⟩)
    go_ret
    exact ⟨rfl, by (repeat (first | exact bl_refl | assumption | apply bl_alloc | apply bl_drew | apply bl_drewN | (apply bl_set; (case hp => first | (simp; done) | (simp; omega))) | (apply bl_trans2; (case k => assumption))))⟩
  · have hm : decide (m ≤ m') = false := by simpa using h
    rw [hm] at hl
    simp only [Bool.false_and] at hl
    rw [hl]
    clear hl
    go_enter Try.func56, Try.ntmps56
    go_wp2_with (go_at_call 79; refine (hb _ _ _ _ _).mono ?_; clear hb; rintro e w1 ⟨rfl, hb1⟩)
    go_ret
    exact ⟨rfl, by (repeat (first | exact bl_refl | assumption | apply bl_alloc | apply bl_drew | apply bl_drewN | (apply bl_set; (case hp => first | (simp; done) | (simp; omega))) | (apply bl_trans2; (case k => assumption))))⟩

set_option maxHeartbeats 400000 in
theorem max1 (x y : Int) (w : World) : Calls Try.prog 59 #[.int .i64 x, .int .i64 y] w fun e w' => e = .returned (.int .i64 (max x y)) ∧ w' = w := by
  go_enter Try.func59, Try.ntmps59
  go_wp2
  all_goals (go_ret; exact ⟨ret_int (by omega), rfl⟩)
theorem max1_in : Enters Try.prog 59 := fun _ _ => by kernel_rfl

set_option maxHeartbeats 400000 in
theorem vec_max (m c m' c' : Int) (w : World) :
    Calls Try.prog 31 #[.agg #[.int .i64 m, .int .i64 c], .agg #[.int .i64 m', .int .i64 c']] w fun e w' =>
      e = .returned (.agg #[.int .i64 (max m m'), .int .i64 (max c c')]) ∧ Below w.heap.size w w' := by
  have hb := vec_made 59 max max1_in max1
  go_enter Try.func31, Try.ntmps31
  go_wp2_with (go_at_call 58; refine (hb _ _ _ _ _).mono ?_; clear hb; rintro e w1 ⟨rfl, hb1⟩; obtain ⟨hc1, hf1⟩ := bcell hb1; have hz1 := hb1.size)
  simp at hz1
  exact bodyPost_ret (v := .agg #[.int .i64 (max m m'), .int .i64 (max c c')]) (by simp [results, Try.results31, go_sem, hc1, hf1, hz1]) rfl ⟨rfl, by (repeat (first | exact bl_refl | assumption | apply bl_alloc | apply bl_drew | apply bl_drewN | (apply bl_set; (case hp => first | (simp; done) | (simp; omega))) | (apply bl_trans2; (case k => assumption))))⟩

end Go.Proofs.Ytdbogephaddbjaa
