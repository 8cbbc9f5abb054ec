/- slot.check, slot.low. -/
import Derived.Test.YtdbogephaddbjaaSlotA
import Derived.Tactics
import Derived.Tactics2
import Derived.WalkKit
import Derived.LoopTactic
import Derived.WalkLawsBesides
import Derived.WalkSpells
import Derived.Outline
import Derived.Deep.QuietTactic
import Derived.BigQuiet
import Derived.Deep.DeepCutAuto
import Derived.Deep.LoopGhost
import Derived.Deep.RegionHeld3
import Derived.RegionTactic
import Derived.KernelRfl
import Derived.Lib.Hide
set_option linter.unusedVariables false
set_option linter.unusedSimpArgs false
namespace Go.Proofs.Ytdbogephaddbjaa
open Go.RowKit
attribute [local go_sem] Oper.semAt_some

set_option maxHeartbeats 400000 in
theorem check1 (d m c : Int) (w : World) : Calls Try.prog 50 #[.agg #[.int .i64 d, .int .i64 m, .int .i64 c]] w fun e w' => e = .returned (.bool (!mayV m c)) ∧ Below w.heap.size w w' := by
  go_enter Try.func50, Try.ntmps50
  have hc := vec_may m c (w.alloc (.cells #[.int .i64 d, .int .i64 m, .int .i64 c] 53))
  cases hm : mayV m c with
  | true =>
    rw [hm] at hc
    clear hm
    go_wp2_with (refine hc.mono ?_; clear hc; rintro e w1 ⟨rfl, hb1⟩)
    go_ret
    exact ⟨rfl, by (repeat (first | exact bl_refl | assumption | apply bl_alloc | apply bl_drew | apply bl_drewN | (apply bl_set; (case hp => first | (simp; done) | (simp; omega))) | (apply bl_trans2; (case k => assumption))))⟩
  | false =>
    rw [hm] at hc
    clear hm
    go_wp2_with (refine hc.mono ?_; clear hc; rintro e w1 ⟨rfl, hb1⟩)
    go_ret
    exact ⟨rfl, by (repeat (first | exact bl_refl | assumption | apply bl_alloc | apply bl_drew | apply bl_drewN | (apply bl_set; (case hp => first | (simp; done) | (simp; omega))) | (apply bl_trans2; (case k => assumption))))⟩
theorem check1_in : Enters Try.prog 50 := fun _ _ => by kernel_rfl

def farB (t : Int) : Bool := decide (t < -1099511627776 ∨ 1099511627776 < t)
/-- slot.check. -/
def checkF (F : List Seg) (W : Win) (L : List Leg) : Int × Int :=
  if mayF F = false then (0, 5)
  else if (lenF L).2 ≠ 0 ∨ W.t ≤ W.f ∨ 4096 < W.t - W.f then (0, 2)
  else if farB W.f = true ∨ farB W.t = true ∨ (L.all fun x => mayV x.v.m x.v.c) = false then (0, 10)
  else ((lenF L).1, 0)

theorem any_leg : ∀ (L : List Leg) (q : Leg → Bool), (List.range L.length).any (fun i => match L[i]? with | some x => q x | none => false) = L.any q := by
  intro L q
  rw [Bool.eq_iff_iff, List.any_eq_true, List.any_eq_true]
  constructor
  · rintro ⟨i, hi, h⟩
    rw [List.mem_range] at hi
    rw [List.getElem?_eq_getElem hi] at h
    exact ⟨L[i], List.getElem_mem hi, h⟩
  · rintro ⟨x, hx, h⟩
    obtain ⟨i, hi, rfl⟩ := List.mem_iff_getElem.1 hx
    exact ⟨i, List.mem_range.2 hi, by rw [List.getElem?_eq_getElem hi]; exact h⟩
theorem any_may (L : List Leg) : (L.any fun x => !mayV x.v.m x.v.c) = !(L.all fun x => mayV x.v.m x.v.c) := by
  rw [List.not_all_eq_any_not]

theorem wrap_span {f t : Int} (h : f < t) (hf : -9223372036854775808 ≤ f ∧ f ≤ 9223372036854775807) (ht : -9223372036854775808 ≤ t ∧ t ≤ 9223372036854775807) : IntKind.u64.wrap (wrap64 (t - f)) = t - f := by
  unfold wrap64 IntKind.wrap
  simp [IntKind.bits, IntKind.signed]
  omega

set_option maxHeartbeats 2000000 in
theorem slot_check (A A' : Option Addr) (F : List Seg) (L : List Leg) (c c' : Nat) (f t : Int) (w : World) (hn : F.length ≤ 1000000) (hl : L.length ≤ 1000000) (hF : Segs w w.heap.size A F) (hL : Legs w w.heap.size A' L)
    (hf : -9223372036854775808 ≤ f ∧ f ≤ 9223372036854775807) (ht : -9223372036854775808 ≤ t ∧ t ≤ 9223372036854775807) :
    Calls Try.prog 27 #[.slice A F.length c, .agg #[.int .i64 f, .int .i64 t], .slice A' L.length c'] w fun e w' =>
      e = .returned (.tuple #[.int .i64 (checkF F ⟨f, t⟩ L).1, .int .i64 (checkF F ⟨f, t⟩ L).2]) ∧ Below w.heap.size w w' := by
  go_enter Try.func27, Try.ntmps27
  have cm := fun W (hW : Below w.heap.size w W) => rle_may A F c W hn (hF.bl hW)
  have cl := fun W (hW : Below w.heap.size w W) => slot_length A' L c' W hl (hL.bl hW)
  have cc := fun W (hW : Below w.heap.size w W) => containsFunc_leg A' L c' 50 #[] (fun i => match L[i]? with | some x => !mayV x.v.m x.v.c | none => false) (fun _ W' => Below W.heap.size W W') W hl check1_in
    (fun _ W' h => (hL.bl hW).bl h) bl_refl (fun i x W' hx hb => by
      rw [hx]
      exact (check1 _ _ _ W').mono fun e W2 h => ⟨h.1, bl_trans hb h.2⟩)
  clear hF hL
  cases hm : mayF F with
  | false =>
    rw [hm] at cm
    have hr : checkF F ⟨f, t⟩ L = (0, 5) := by unfold checkF; rw [if_pos hm]
    rw [hr]
    clear hr hm cl cc
    go_wp2_with (go_at_call 39; refine (cm _ (by (repeat (first | exact bl_refl | assumption | apply bl_alloc | apply bl_drew | apply bl_drewN | (apply bl_set; (case hp => first | (simp; done) | (simp; omega))) | (apply bl_trans2; (case k => assumption)))))).mono ?_; clear cm; rintro e w1 ⟨rfl, hb1⟩)
    go_ret2
    exact ⟨rfl, by (repeat (first | exact bl_refl | assumption | apply bl_alloc | apply bl_drew | apply bl_drewN | (apply bl_set; (case hp => first | (simp; done) | (simp; omega))) | (apply bl_trans2; (case k => assumption))))⟩
  | true =>
    rw [hm] at cm
    by_cases h2 : lenF L = (0, 2)
    · have hr : checkF F ⟨f, t⟩ L = (0, 2) := by unfold checkF; rw [if_neg (by simp [hm]), if_pos (.inl (by rw [h2]; decide))]
      rw [hr]
      rw [h2] at cl
      clear hr hm cc h2
      go_wp2_with (first
        | (go_at_call 39; refine (cm _ (by (repeat (first | exact bl_refl | assumption | apply bl_alloc | apply bl_drew | apply bl_drewN | (apply bl_set; (case hp => first | (simp; done) | (simp; omega))) | (apply bl_trans2; (case k => assumption)))))).mono ?_; clear cm; rintro e w1 ⟨rfl, hb1⟩)
        | (go_at_call 25; refine (cl _ (by (repeat (first | exact bl_refl | assumption | apply bl_alloc | apply bl_drew | apply bl_drewN | (apply bl_set; (case hp => first | (simp; done) | (simp; omega))) | (apply bl_trans2; (case k => assumption)))))).mono ?_; clear cl; rintro e w2 ⟨rfl, hb2⟩))
      go_ret2
      exact ⟨rfl, by (repeat (first | exact bl_refl | assumption | apply bl_alloc | apply bl_drew | apply bl_drewN | (apply bl_set; (case hp => first | (simp; done) | (simp; omega))) | (apply bl_trans2; (case k => assumption))))⟩
    · have h3 : lenF L = (sumD L, 0) := by
        unfold lenF at h2 ⊢
        split
        · rfl
        · rename_i h; rw [if_neg h] at h2; exact absurd rfl h2
      rw [h3] at cl
      obtain ⟨s, hs⟩ : ∃ s, sumD L = s := ⟨_, rfl⟩
      have hs' := hs
      rw [hs] at cl
      have cl' : ∀ (W : World), Below w.heap.size w W → Bx W w.heap.size [.int .i64 f, .int .i64 t] → Calls Try.prog 25 #[.slice A' L.length c'] W fun e w' => e = .returned (.tuple #[.int .i64 s, .int .i64 0]) ∧ Below w.heap.size w w' ∧ w.heap.size < w'.heap.size ∧ w'.cell? ⟨w.heap.size, 0, none⟩ = some (.int .i64 f) ∧ w'.cell? ⟨w.heap.size, 1, none⟩ = some (.int .i64 t) ∧ w'.frozen? ⟨w.heap.size, 0, none⟩ = false ∧ w'.frozen? ⟨w.heap.size, 1, none⟩ = false := fun W hW hx =>
        (cl W hW).mono fun e w' h => by
          obtain ⟨k1, k2, k3, k4, k5⟩ := (hx.bl h.2).two
          exact ⟨h.1, bl_trans hW h.2, k5, k1, k2, k3, k4⟩
      have cm' : Calls Try.prog 39 #[.slice A F.length c] (w.alloc (.cells #[.int .i64 f, .int .i64 t] 24)) fun e w' => e = .returned (.bool true) ∧ Below w.heap.size w w' ∧ Bx w' w.heap.size [.int .i64 f, .int .i64 t] :=
        (cm _ (by (repeat (first | exact bl_refl | assumption | apply bl_alloc | apply bl_drew | apply bl_drewN | (apply bl_set; (case hp => first | (simp; done) | (simp; omega))) | (apply bl_trans2; (case k => assumption)))))).mono fun e w' h => ⟨h.1, bl_trans (by (repeat (first | exact bl_refl | assumption | apply bl_alloc | apply bl_drew | apply bl_drewN | (apply bl_set; (case hp => first | (simp; done) | (simp; omega))) | (apply bl_trans2; (case k => assumption))))) h.2, (Bx.new w [.int .i64 f, .int .i64 t] _).bl h.2⟩
      clear cm cl
      by_cases h4 : t ≤ f
      · have hr : checkF F ⟨f, t⟩ L = (0, 2) := by unfold checkF; rw [if_neg (by simp [hm]), if_pos (.inr (.inl h4))]
        rw [hr]
        clear hr hm cc h2 h3 hs hs'
        go_wp2_with (first
          | (go_at_call 39; refine cm'.mono ?_; clear cm'; rintro e w1 ⟨rfl, hb1, hx1⟩)
          | (go_at_call 25; refine (cl' _ hb1 hx1).mono ?_; clear cl'; rintro e w2 ⟨rfl, hb2, q1, q2, q3, q4, q5⟩))
        go_ret2
        exact ⟨rfl, by (repeat (first | exact bl_refl | assumption | apply bl_alloc | apply bl_drew | apply bl_drewN | (apply bl_set; (case hp => first | (simp; done) | (simp; omega))) | (apply bl_trans2; (case k => assumption))))⟩
      · have hw := wrap_span (by omega) hf ht
        have e1 : decide (t ≤ f) = false := by simp; omega
        by_cases h5 : 4096 < t - f
        · have hr : checkF F ⟨f, t⟩ L = (0, 2) := by unfold checkF; rw [if_neg (by simp [hm]), if_pos (.inr (.inr h5))]
          rw [hr]
          rw [← hw] at h5
          clear hr hm cc h2 h3 hs hs' hw e1
          go_wp2_with (first
            | (go_at_call 39; refine cm'.mono ?_; clear cm'; rintro e w1 ⟨rfl, hb1, hx1⟩)
            | (go_at_call 25; refine (cl' _ hb1 hx1).mono ?_; clear cl'; rintro e w2 ⟨rfl, hb2, q1, q2, q3, q4, q5⟩))
          go_ret2
          exact ⟨rfl, by (repeat (first | exact bl_refl | assumption | apply bl_alloc | apply bl_drew | apply bl_drewN | (apply bl_set; (case hp => first | (simp; done) | (simp; omega))) | (apply bl_trans2; (case k => assumption))))⟩
        · have h5' := h5
          rw [← hw] at h5'
          by_cases h6 : farB f = true
          · have hr : checkF F ⟨f, t⟩ L = (0, 10) := by unfold checkF; rw [if_neg (by simp [hm]), if_neg (by rw [h3]; simp; omega), if_pos (.inl h6)]
            rw [hr]
            have cf := fun W => slot_far f W
            rw [show decide (f < -1099511627776 ∨ 1099511627776 < f) = true from h6] at cf
            clear hr hm cc h2 h3 hs hs' hw e1 h5 h6
            go_wp2_with (first
              | (go_at_call 39; refine cm'.mono ?_; clear cm'; rintro e w1 ⟨rfl, hb1, hx1⟩)
              | (go_at_call 25; refine (cl' _ hb1 hx1).mono ?_; clear cl'; rintro e w2 ⟨rfl, hb2, q1, q2, q3, q4, q5⟩)
              | (go_at_call 52; refine (cf _).mono ?_; clear cf; rintro e w3 ⟨rfl, rfl⟩))
            go_ret2
            exact ⟨rfl, by (repeat (first | exact bl_refl | assumption | apply bl_alloc | apply bl_drew | apply bl_drewN | (apply bl_set; (case hp => first | (simp; done) | (simp; omega))) | (apply bl_trans2; (case k => assumption))))⟩
          · by_cases h7 : farB t = true
            · have hr : checkF F ⟨f, t⟩ L = (0, 10) := by unfold checkF; rw [if_neg (by simp [hm]), if_neg (by rw [h3]; simp; omega), if_pos (.inr (.inl h7))]
              rw [hr]
              have cf := fun W => slot_far f W
              have cg := fun W => slot_far t W
              rw [show decide (f < -1099511627776 ∨ 1099511627776 < f) = false from by simpa [farB] using h6] at cf
              rw [show decide (t < -1099511627776 ∨ 1099511627776 < t) = true from h7] at cg
              clear hr hm cc h2 h3 hs hs' hw e1 h5 h6 h7
              go_wp2_with (first
                | (go_at_call 39; refine cm'.mono ?_; clear cm'; rintro e w1 ⟨rfl, hb1, hx1⟩)
                | (go_at_call 25; refine (cl' _ hb1 hx1).mono ?_; clear cl'; rintro e w2 ⟨rfl, hb2, q1, q2, q3, q4, q5⟩)
                | (refine (cf _).mono ?_; clear cf; rintro e w3 ⟨rfl, rfl⟩)
                | (refine (cg _).mono ?_; clear cg; rintro e w3 ⟨rfl, rfl⟩))
              go_ret2
              exact ⟨rfl, by (repeat (first | exact bl_refl | assumption | apply bl_alloc | apply bl_drew | apply bl_drewN | (apply bl_set; (case hp => first | (simp; done) | (simp; omega))) | (apply bl_trans2; (case k => assumption))))⟩
            · cases h8 : L.all fun x => mayV x.v.m x.v.c with
              | false =>
                have hr : checkF F ⟨f, t⟩ L = (0, 10) := by unfold checkF; rw [if_neg (by simp [hm]), if_neg (by rw [h3]; simp; omega), if_pos (.inr (.inr h8))]
                rw [hr]
                have cf := fun W => slot_far f W
                have cg := fun W => slot_far t W
                rw [show decide (f < -1099511627776 ∨ 1099511627776 < f) = false from by simpa [farB] using h6] at cf
                rw [show decide (t < -1099511627776 ∨ 1099511627776 < t) = false from by simpa [farB] using h7] at cg
                unfold HasPost at cc
                simp only [any_leg L fun x => !mayV x.v.m x.v.c, any_may, h8, Bool.not_false, Bool.not_true] at cc
                clear hr hm h2 h3 hs hs' hw e1 h5 h6 h7 h8
                go_wp2_with (first
                  | (go_at_call 39; refine cm'.mono ?_; clear cm'; rintro e w1 ⟨rfl, hb1, hx1⟩)
                  | (go_at_call 25; refine (cl' _ hb1 hx1).mono ?_; clear cl'; rintro e w2 ⟨rfl, hb2, q1, q2, q3, q4, q5⟩)
                  | (refine (cf _).mono ?_; clear cf; rintro e w3 ⟨rfl, rfl⟩)
                  | (refine (cg _).mono ?_; clear cg; rintro e w3 ⟨rfl, rfl⟩)
                  | (go_at_call 53; refine (cc _ hb2).mono ?_; clear cc; rintro e w3 ⟨rfl, k3, hb3⟩))
                go_ret2
                exact ⟨rfl, by (repeat (first | exact bl_refl | assumption | apply bl_alloc | apply bl_drew | apply bl_drewN | (apply bl_set; (case hp => first | (simp; done) | (simp; omega))) | (apply bl_trans2; (case k => assumption))))⟩
              | true =>
                have hr : checkF F ⟨f, t⟩ L = (s, 0) := by unfold checkF; rw [if_neg (by simp [hm]), if_neg (by rw [h3]; simp; omega), if_neg (by rintro (h | h | h); exact h6 h; exact h7 h; rw [h8] at h; exact absurd h (by decide)), h3, hs]
                rw [hr]
                have cf := fun W => slot_far f W
                have cg := fun W => slot_far t W
                rw [show decide (f < -1099511627776 ∨ 1099511627776 < f) = false from by simpa [farB] using h6] at cf
                rw [show decide (t < -1099511627776 ∨ 1099511627776 < t) = false from by simpa [farB] using h7] at cg
                unfold HasPost at cc
                simp only [any_leg L fun x => !mayV x.v.m x.v.c, any_may, h8, Bool.not_false, Bool.not_true] at cc
                clear hr hm h2 h3 hs hs' hw e1 h5 h6 h7 h8
                go_wp2_with (first
                  | (go_at_call 39; refine cm'.mono ?_; clear cm'; rintro e w1 ⟨rfl, hb1, hx1⟩)
                  | (go_at_call 25; refine (cl' _ hb1 hx1).mono ?_; clear cl'; rintro e w2 ⟨rfl, hb2, q1, q2, q3, q4, q5⟩)
                  | (refine (cf _).mono ?_; clear cf; rintro e w3 ⟨rfl, rfl⟩)
                  | (refine (cg _).mono ?_; clear cg; rintro e w3 ⟨rfl, rfl⟩)
                  | (go_at_call 53; refine (cc _ hb2).mono ?_; clear cc; rintro e w3 ⟨rfl, k3, hb3⟩))
                go_ret2
                exact ⟨rfl, by (repeat (first | exact bl_refl | assumption | apply bl_alloc | apply bl_drew | apply bl_drewN | (apply bl_set; (case hp => first | (simp; done) | (simp; omega))) | (apply bl_trans2; (case k => assumption))))⟩

end Go.Proofs.Ytdbogephaddbjaa
