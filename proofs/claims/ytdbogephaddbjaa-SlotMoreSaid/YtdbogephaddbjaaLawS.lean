/- liverylaw16's small functions; liveryref16.Same. -/
import Derived.Test.YtdbogephaddbjaaSlotH
import Derived.Tactics
import Derived.Tactics2
import Derived.WalkKit
import Derived.LoopTactic
import Derived.WalkLawsBesides
import Derived.WalkSpells
import Derived.Outline
import Derived.Deep.QuietTactic
import Derived.BigQuiet
import Derived.Deep.DeepCutAuto
import Derived.Deep.LoopGhost
import Derived.Deep.RegionHeld3
import Derived.RegionTactic
import Derived.KernelRfl
import Derived.Lib.Hide
set_option linter.unusedVariables false
set_option linter.unusedSimpArgs false
namespace Go.Proofs.Ytdbogephaddbjaa
open Go.RowKit
attribute [local go_sem] Oper.semAt_some

set_option maxHeartbeats 400000 in
theorem law_v (n : Int) (w : World) : Calls Try.prog 22 #[.int .i64 n] w fun e w' => e = .returned (.agg #[.int .i64 n, .int .i64 n]) ∧ Below w.heap.size w w' := by
  go_enter Try.func22, Try.ntmps22
  go_wp2
  exact bodyPost_ret (v := .agg #[.int .i64 n, .int .i64 n]) (by simp [results, Try.results22, go_sem]) rfl ⟨rfl, by (repeat (first | exact bl_refl | assumption | apply bl_alloc | apply bl_drew | apply bl_drewN | (apply bl_set; (case hp => first | (simp; done) | (simp; omega))) | (apply bl_trans2; (case k => assumption))))⟩

/-- Is a case more than a statement looks at? -/
def greatB (nf nl : Nat) (f t : Int) : Bool := decide (60 < nf) || (decide (30 < nl) || (decide (f < t) && (decide (150 < wrap64 (t - f)) && decide (wrap64 (t - f) ≤ 4096))))
set_option maxHeartbeats 1000000 in
theorem law_great (A A' : Option Addr) (nf nl c c' : Nat) (f t : Int) (w : World) :
    Calls Try.prog 7 #[.slice A nf c, .agg #[.int .i64 f, .int .i64 t], .slice A' nl c'] w fun e w' => e = .returned (.bool (greatB nf nl f t)) ∧ Below w.heap.size w w' := by
  by_cases h1 : 60 < nf
  · have hr : greatB nf nl f t = true := by simp [greatB, h1]
    rw [hr]
    have e1 : (60 : Int) < nf := by omega
    clear hr h1
    go_enter Try.func7, Try.ntmps7
    go_wp2
    go_ret
    exact ⟨rfl, by (repeat (first | exact bl_refl | assumption | apply bl_alloc | apply bl_drew | apply bl_drewN | (apply bl_set; (case hp => first | (simp; done) | (simp; omega))) | (apply bl_trans2; (case k => assumption))))⟩
  · have e1 : ¬ (60 : Int) < nf := by omega
    by_cases h2 : 30 < nl
    · have hr : greatB nf nl f t = true := by simp [greatB, h2]
      rw [hr]
      have e2 : (30 : Int) < nl := by omega
      clear hr h1 h2
      go_enter Try.func7, Try.ntmps7
      go_wp2
      go_ret
      exact ⟨rfl, by (repeat (first | exact bl_refl | assumption | apply bl_alloc | apply bl_drew | apply bl_drewN | (apply bl_set; (case hp => first | (simp; done) | (simp; omega))) | (apply bl_trans2; (case k => assumption))))⟩
    · have e2 : ¬ (30 : Int) < nl := by omega
      by_cases h3 : f < t
      · by_cases h4 : 150 < wrap64 (t - f)
        · by_cases h5 : wrap64 (t - f) ≤ 4096
          · have hr : greatB nf nl f t = true := by simp [greatB, h3, h4, h5]
            rw [hr]
            clear hr h1 h2
            go_enter Try.func7, Try.ntmps7
            go_wp2
            go_ret
            exact ⟨rfl, by (repeat (first | exact bl_refl | assumption | apply bl_alloc | apply bl_drew | apply bl_drewN | (apply bl_set; (case hp => first | (simp; done) | (simp; omega))) | (apply bl_trans2; (case k => assumption))))⟩
          · have hr : greatB nf nl f t = false := by simp [greatB, h1, h2, h5]
            rw [hr]
            clear hr h1 h2
            go_enter Try.func7, Try.ntmps7
            go_wp2
            go_ret
            exact ⟨rfl, by (repeat (first | exact bl_refl | assumption | apply bl_alloc | apply bl_drew | apply bl_drewN | (apply bl_set; (case hp => first | (simp; done) | (simp; omega))) | (apply bl_trans2; (case k => assumption))))⟩
        · have hr : greatB nf nl f t = false := by simp [greatB, h1, h2, h4]
          rw [hr]
          clear hr h1 h2
          go_enter Try.func7, Try.ntmps7
          go_wp2
          go_ret
          exact ⟨rfl, by (repeat (first | exact bl_refl | assumption | apply bl_alloc | apply bl_drew | apply bl_drewN | (apply bl_set; (case hp => first | (simp; done) | (simp; omega))) | (apply bl_trans2; (case k => assumption))))⟩
      · have hr : greatB nf nl f t = false := by simp [greatB, h1, h2, h3]
        rw [hr]
        clear hr h1 h2
        go_enter Try.func7, Try.ntmps7
        go_wp2
        go_ret
        exact ⟨rfl, by (repeat (first | exact bl_refl | assumption | apply bl_alloc | apply bl_drew | apply bl_drewN | (apply bl_set; (case hp => first | (simp; done) | (simp; omega))) | (apply bl_trans2; (case k => assumption))))⟩

/-- liverylaw16.within. -/
def coverB (r s : Win) : Bool := decide (s.f ≤ r.f) && decide (r.t ≤ s.t)
def withinB (a b : List Win) : Bool := a.all fun r => b.any fun s => coverB r s
theorem withinB_of {a b : List Win} (h : WithinL a b) : withinB a b = true := by
  unfold withinB
  rw [List.all_eq_true]
  intro r hr
  rw [List.any_eq_true]
  obtain ⟨s, hs, h1, h2⟩ := h r hr
  exact ⟨s, hs, by unfold coverB; simp [h1, h2]⟩
set_option maxRecDepth 100000 in
set_option maxHeartbeats 4000000 in
theorem law_within (A A' : Option Addr) (a b : List Win) (c c' : Nat) (w : World) (ha : a.length ≤ 100000) (hb : b.length ≤ 100000) (hA : Wins w w.heap.size A a) (hB : Wins w w.heap.size A' b) :
    Calls Try.prog 10 #[.slice A a.length c, .slice A' b.length c'] w fun e w' => e = .returned (.bool (withinB a b)) ∧ Below w.heap.size w w' := by
  go_enter Try.func10, Try.ntmps10
  go_wp2
  go_loopw [5] (fun s5 W => ∃ k : Nat, k ≤ a.length ∧ s5 = .int .i64 k ∧ Below w.heap.size w W ∧ withinB (a.take k) b = true) (fun s5 _ => a.length - (intOf s5).toNat)
  case atStart => exact ⟨0, Nat.zero_le _, rfl, bl_refl, rfl⟩
  case round =>
    obtain ⟨k, hk, rfl, hW, hall⟩ := hrel
    have HW := Lib.hid (And.intro hW hall)
    by_cases hlt : k < a.length
    · have hx : a[k]? = some a[k] := List.getElem?_eq_getElem hlt
      obtain ⟨r, hxe⟩ : ∃ r, a[k] = r := ⟨_, rfl⟩
      rw [hxe] at hx
      clear hxe
      have HA := Lib.hid (And.intro hA (And.intro hB hx))
      clear hA hB hx hW hall
      go_wp2
      go_loopw [6, 7] (fun s6 s7 W => ∃ j : Nat, j ≤ b.length ∧ s7 = .int .i64 j ∧ s6 = .bool ((b.take j).any fun s => coverB r s) ∧ Below w.heap.size w W) (fun _ s7 _ => b.length - (intOf s7).toNat)
      case atStart => exact ⟨0, Nat.zero_le _, rfl, rfl, HW.out.1⟩
      case round =>
        obtain ⟨j, hj, rfl, rfl, hW1⟩ := hrel
        by_cases hjl : j < b.length
        · obtain ⟨hA, hB, hx⟩ := HA.out
          have hy : b[j]? = some b[j] := List.getElem?_eq_getElem hjl
          obtain ⟨s, hye⟩ : ∃ s, b[j] = s := ⟨_, rfl⟩
          rw [hye] at hy
          clear hye
          obtain ⟨rb, ro, rfl, hrb, x0, x1⟩ := (hA.below hW1).win hx
          obtain ⟨sb, so, rfl, hsb, y0, y1⟩ := (hB.below hW1).win hy
          have ht : ((b.take (j + 1)).any fun s => coverB r s) = (((b.take j).any fun s => coverB r s) || coverB r s) := by rw [take_snoc hy, List.any_append]; simp
          have f1 : (0 : Int) ≤ (j : Int) := by omega
          have f2 : (j : Int) < (b.length : Int) := by omega
          have f3 : (0 : Int) ≤ (k : Int) := by omega
          have f4 : (k : Int) < (a.length : Int) := by omega
          have HT := Lib.hid (And.intro ht hW1)
          obtain ⟨q, hq⟩ : ∃ q, ((b.take j).any fun s => coverB r s) = q := ⟨_, rfl⟩
          have HQ := Lib.hid hq
          rw [hq]
          clear hA hB hx hy ht hq hW1
          cases q with
          | true =>
            go_wp2
            go_quiet (fail)
            go_wp2
            go_roundw
            case rel => exact ⟨j + 1, by omega, by go_num, by rw [HT.out.1, HQ.out]; rfl, by have := HT.out.2; (repeat (first | exact bl_refl | assumption | apply bl_alloc | apply bl_drew | apply bl_drewN | (apply bl_set; (case hp => first | (simp; done) | (simp; omega))) | (apply bl_trans2; (case k => assumption))))⟩
            case measure => simp [intOf]; omega
          | false =>
            by_cases h1 : s.f ≤ r.f
            · by_cases h2 : r.t ≤ s.t
              · have d1 : decide (s.f ≤ r.f) = true := by simpa using h1
                have d2 : decide (r.t ≤ s.t) = true := by simpa using h2
                go_wp2
                go_quiet (fail)
                go_wp2
                go_roundw
                case rel => exact ⟨j + 1, by omega, by go_num, by rw [HT.out.1, HQ.out]; unfold coverB; rw [d1, d2]; rfl, by have := HT.out.2; (repeat (first | exact bl_refl | assumption | apply bl_alloc | apply bl_drew | apply bl_drewN | (apply bl_set; (case hp => first | (simp; done) | (simp; omega))) | (apply bl_trans2; (case k => assumption))))⟩
                case measure => simp [intOf]; omega
              · have d1 : decide (s.f ≤ r.f) = true := by simpa using h1
                have d2 : decide (r.t ≤ s.t) = false := by simpa using h2
                go_wp2
                go_quiet (fail)
                go_wp2
                go_roundw
                case rel => exact ⟨j + 1, by omega, by go_num, by rw [HT.out.1, HQ.out]; unfold coverB; rw [d1, d2]; rfl, by have := HT.out.2; (repeat (first | exact bl_refl | assumption | apply bl_alloc | apply bl_drew | apply bl_drewN | (apply bl_set; (case hp => first | (simp; done) | (simp; omega))) | (apply bl_trans2; (case k => assumption))))⟩
                case measure => simp [intOf]; omega
            · have d1 : decide (s.f ≤ r.f) = false := by simpa using h1
              go_wp2
              go_quiet (fail)
              go_wp2
              go_roundw
              case rel => exact ⟨j + 1, by omega, by go_num, by rw [HT.out.1, HQ.out]; unfold coverB; rw [d1]; rfl, by have := HT.out.2; (repeat (first | exact bl_refl | assumption | apply bl_alloc | apply bl_drew | apply bl_drewN | (apply bl_set; (case hp => first | (simp; done) | (simp; omega))) | (apply bl_trans2; (case k => assumption))))⟩
              case measure => simp [intOf]; omega
        · obtain rfl : j = b.length := by omega
          rw [List.take_length]
          have ht : withinB (a.take (k + 1)) b = (withinB (a.take k) b && (b.any fun s => coverB r s)) := by unfold withinB; rw [take_snoc HA.out.2.2, List.all_append]; simp
          rw [HW.out.2, Bool.true_and] at ht
          cases hq : (b.any fun s => coverB r s) with
          | true =>
            rw [hq] at ht
            have HT := Lib.hid (And.intro ht hW1)
            clear ht hq hW1
            go_wp2
            go_roundw
            case rel => exact ⟨k + 1, by omega, by go_num, HT.out.2, HT.out.1⟩
            case measure => simp [intOf]; omega
          | false =>
            have hf : withinB a b = false := by
              unfold withinB
              rw [List.all_eq_false]
              exact ⟨r, List.mem_of_getElem? HA.out.2.2, by rw [hq]; simp⟩
            have HF := Lib.hid hf
            clear ht hq hf
            go_wp2
            go_ret
            exact ⟨by rw [HF.out]; rfl, hW1⟩
    · obtain rfl : k = a.length := by omega
      rw [List.take_length] at hall
      clear hA hB hW
      have HF := Lib.hid hall
      clear hall
      go_wp2
      go_ret
      exact ⟨by rw [HF.out]; rfl, HW.out.1⟩

/-- liveryref16.Same. -/
theorem same_of_take {a b : List Win} (hl : a.length = b.length) (h : a.take a.length = b.take a.length) : a = b := by
  rwa [List.take_length, hl, List.take_length] at h
set_option maxRecDepth 100000 in
set_option maxHeartbeats 4000000 in
theorem law_same (A A' : Option Addr) (a b : List Win) (c c' : Nat) (w : World) (ha : a.length ≤ 100000) (hb : b.length ≤ 100000) (hA : Wins w w.heap.size A a) (hB : Wins w w.heap.size A' b) :
    Calls Try.prog 26 #[.slice A a.length c, .slice A' b.length c'] w fun e w' => e = .returned (.bool (decide (a = b))) ∧ Below w.heap.size w w' := by
  by_cases hl : a.length = b.length
  · go_enter Try.func26, Try.ntmps26
    have e0 : ((a.length : Int) == (b.length : Int)) = true := by rw [hl]; simp
    have e0' : ((a.length : Int) != (b.length : Int)) = false := by rw [hl]; simp
    have HL := Lib.hid hl
    clear hl
    go_wp2
    go_loopw [5] (fun s5 W => ∃ k : Nat, k ≤ a.length ∧ s5 = .int .i64 k ∧ Below w.heap.size w W ∧ a.take k = b.take k) (fun s5 _ => a.length - (intOf s5).toNat)
    case atStart => exact ⟨0, Nat.zero_le _, rfl, bl_refl, rfl⟩
    case round =>
      obtain ⟨k, hk, rfl, hW, hall⟩ := hrel
      have HW := Lib.hid (And.intro hW hall)
      by_cases hlt : k < a.length
      · have hx : a[k]? = some a[k] := List.getElem?_eq_getElem hlt
        obtain ⟨r, hxe⟩ : ∃ r, a[k] = r := ⟨_, rfl⟩
        rw [hxe] at hx
        have hy : b[k]? = some (b[k]'(by have := HL.out; omega)) := List.getElem?_eq_getElem _
        obtain ⟨s, hye⟩ : ∃ s, (b[k]'(by have := HL.out; omega)) = s := ⟨_, rfl⟩
        rw [hye] at hy
        clear hxe hye
        obtain ⟨rb, ro, rfl, hrb, x0, x1⟩ := (hA.below hW).win hx
        obtain ⟨sb, so, rfl, hsb, y0, y1⟩ := (hB.below hW).win hy
        have f1 : (0 : Int) ≤ (k : Int) := by omega
        have f2 : (k : Int) < (a.length : Int) := by omega
        have f3 : (k : Int) < (b.length : Int) := by have := HL.out; omega
        have HX := Lib.hid (And.intro hx hy)
        clear hA hB hx hy hW hall
        obtain ⟨rf, rt⟩ := r
        obtain ⟨sf, st⟩ := s
        dsimp only at x0 x1 y0 y1
        by_cases h1 : rf = sf
        · by_cases h2 : rt = st
          · subst h1 h2
            go_wp2
            go_quiet (fail)
            go_wp2
            go_roundw
            case rel => exact ⟨k + 1, by omega, by go_num, by have := HW.out.1; (repeat (first | exact bl_refl | assumption | apply bl_alloc | apply bl_drew | apply bl_drewN | (apply bl_set; (case hp => first | (simp; done) | (simp; omega))) | (apply bl_trans2; (case k => assumption)))), by rw [take_snoc HX.out.1, take_snoc HX.out.2, HW.out.2]⟩
            case measure => simp [intOf]; omega
          · have d1 : (rt == st) = false := by simpa using h2
            have hr : decide (a = b) = false := by
              rw [decide_eq_false_iff_not]
              intro e
              have hx := HX.out
              rw [e] at hx
              have := hx.1.symm.trans hx.2
              injection this with this
              injection this with _ this
              exact h2 this
            have HR := Lib.hid hr
            clear h2 hr
            subst h1
            go_wp2
            go_quiet (fail)
            go_wp2
            go_ret
            exact ⟨by rw [HR.out]; rfl, by have := HW.out.1; (repeat (first | exact bl_refl | assumption | apply bl_alloc | apply bl_drew | apply bl_drewN | (apply bl_set; (case hp => first | (simp; done) | (simp; omega))) | (apply bl_trans2; (case k => assumption))))⟩
        · have d1 : (rf == sf) = false := by simpa using h1
          have hr : decide (a = b) = false := by
            rw [decide_eq_false_iff_not]
            intro e
            have hx := HX.out
            rw [e] at hx
            have := hx.1.symm.trans hx.2
            injection this with this
            injection this with this _
            exact h1 this
          have HR := Lib.hid hr
          clear h1 hr
          go_wp2
          go_quiet (fail)
          go_wp2
          go_ret
          exact ⟨by rw [HR.out]; rfl, by have := HW.out.1; (repeat (first | exact bl_refl | assumption | apply bl_alloc | apply bl_drew | apply bl_drewN | (apply bl_set; (case hp => first | (simp; done) | (simp; omega))) | (apply bl_trans2; (case k => assumption))))⟩
      · obtain rfl : k = a.length := by omega
        have hr : decide (a = b) = true := by
          rw [decide_eq_true_iff]
          exact same_of_take HL.out HW.out.2
        have HR := Lib.hid hr
        clear hA hB hW hall hr
        go_wp2
        go_ret
        exact ⟨by rw [HR.out]; rfl, HW.out.1⟩
  · have hr : decide (a = b) = false := by rw [decide_eq_false_iff_not]; rintro rfl; exact hl rfl
    rw [hr]
    have e0 : ((a.length : Int) == (b.length : Int)) = false := by rw [beq_eq_false_iff_ne]; omega
    have e0' : ((a.length : Int) != (b.length : Int)) = true := by simpa using e0
    clear hl hr
    go_enter Try.func26, Try.ntmps26
    go_wp2
    go_ret
    exact ⟨rfl, bl_refl⟩

end Go.Proofs.Ytdbogephaddbjaa
