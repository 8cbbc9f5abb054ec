/- slot.Earliest, Latest; liveryref16.Same; liverylaw16's small functions. -/
import Derived.Test.YtdbogephaddbjaaSlotG
import Derived.Tactics
import Derived.Tactics2
import Derived.WalkKit
import Derived.LoopTactic
import Derived.WalkLawsBesides
import Derived.WalkSpells
import Derived.Outline
import Derived.Deep.QuietTactic
import Derived.BigQuiet
import Derived.Deep.DeepCutAuto
import Derived.Deep.LoopGhost
import Derived.Deep.RegionHeld3
import Derived.RegionTactic
import Derived.KernelRfl
import Derived.Lib.Hide
set_option linter.unusedVariables false
set_option linter.unusedSimpArgs false
namespace Go.Proofs.Ytdbogephaddbjaa
open Go.RowKit
attribute [local go_sem] Oper.semAt_some

theorem first_in : Enters Try.prog 48 := fun _ _ => by kernel_rfl
theorem last_in : Enters Try.prog 49 := fun _ _ => by kernel_rfl
set_option maxHeartbeats 400000 in
theorem slot_first (A : Option Addr) (r : Win) (L : List Win) (c : Nat) (w : World) (hn : L.length ≤ 100000) (hr : Wins w w.heap.size A (r :: L)) :
    Calls Try.prog 48 #[.slice A (L.length + 1) c] w fun e w' => e = .returned (.int .i64 r.f) ∧ w = w' := by
  obtain ⟨b, off, rfl, hb, c0, c1⟩ := hr.win (i := 0) (x := r) rfl
  simp only [Nat.zero_mul, Nat.add_zero] at c0
  clear hr c1
  have h1 : (0 : Int) < (L.length : Int) + 1 := by omega
  go_enter Try.func48, Try.ntmps48
  go_wp2
  go_ret
  exact ⟨rfl, rfl⟩
set_option maxHeartbeats 400000 in
theorem slot_last (A : Option Addr) (r : Win) (L : List Win) (c : Nat) (w : World) (hn : L.length ≤ 100000) (hr : Wins w w.heap.size A (L ++ [r])) (ht : -9000000000000000000 ≤ r.t ∧ r.t ≤ 9000000000000000000) :
    Calls Try.prog 49 #[.slice A (L.length + 1) c] w fun e w' => e = .returned (.int .i64 (r.t - 1)) ∧ w = w' := by
  obtain ⟨b, off, rfl, hb, c0, c1⟩ := hr.win (i := L.length) (x := r) (by simp)
  clear hr c0
  obtain ⟨h1, h2⟩ := ht
  have h3 : IntKind.i64.wrap ((L.length : Int) + 1 - 1) = L.length := by rw [IntWalk.i64_in _ (by omega)]; omega
  have h4 : (0 : Int) ≤ L.length := by omega
  have h5 : (L.length : Int) < (L.length : Int) + 1 := by omega
  go_enter Try.func49, Try.ntmps49
  go_wp2
  go_ret
  exact ⟨rfl, rfl⟩
set_option maxHeartbeats 400000 in
theorem slot_end0 (A : Option Addr) (c g : Nat) (caps : Array Value) (w : World) : Calls Try.prog 47 #[.slice A 0 c, .func (.func g) #[] caps] w fun e w' => e = .returned (.tuple #[.int .i64 0, .int .i64 210]) ∧ w = w' := by
  go_enter Try.func47, Try.ntmps47
  go_wp2
  go_ret2
  exact ⟨rfl, rfl⟩
set_option maxHeartbeats 400000 in
theorem slot_end1 (A : Option Addr) (n c g : Nat) (w : World) (r : Int) (hg : Enters Try.prog g) (hn : n ≤ 100000)
    (hc : Calls Try.prog g #[.slice A (n + 1) c] w fun e w' => e = .returned (.int .i64 r) ∧ w = w') : Calls Try.prog 47 #[.slice A (n + 1) c, .func (.func g) #[] #[]] w fun e w' => e = .returned (.tuple #[.int .i64 r, .int .i64 0]) ∧ w = w' := by
  unfold Enters at hg
  have h1 : ((n : Int) + 1 == 0) = false := by simp; omega
  go_enter Try.func47, Try.ntmps47
  go_wp2_with (refine hc.mono ?_; clear hc; rintro e w1 ⟨rfl, rfl⟩)
  go_ret2
  exact ⟨rfl, rfl⟩

def firstF (F : List Seg) (w : Win) (L : List Leg) : Int × Int :=
  if (beginsF F w L).2 ≠ 0 then (0, (beginsF F w L).2) else match (beginsF F w L).1 with | [] => (0, 210) | r :: _ => (r.f, 0)
def lastF (F : List Seg) (w : Win) (L : List Leg) : Int × Int :=
  if (beginsF F w L).2 ≠ 0 then (0, (beginsF F w L).2) else match (beginsF F w L).1.getLast? with | none => (0, 210) | some r => (r.t - 1, 0)
theorem begins_bd {F : List Seg} {w : Win} {L : List Leg} (he : (beginsF F w L).2 = 0) : ∀ r ∈ (beginsF F w L).1, w.f ≤ r.f ∧ r.f < r.t ∧ r.t ≤ w.t ∧ -1099511627776 ≤ w.f ∧ w.t ≤ 1099511627776 := by
  intro r hr
  rw [beginsF_err] at he
  have hC := checkF_ok.1 he
  obtain ⟨lo, hi, hp⟩ := begins_parted (F := F) (w := w) (L := L)
  have h1 := hp.2 r hr
  have h2 := (inW_begins hC (t := r.f)).1 ⟨r, hr, Int.le_refl _, h1.2.1⟩
  have h3 := (inW_begins hC (t := r.t - 1)).1 ⟨r, hr, by omega, by omega⟩
  have h4 := lenF_ok hC.len
  have h5 : 1 ≤ sumD L := by
    match L, h4 with
    | [], h4 => have := h4.2.1; simp at this
    | x :: L, h4 =>
      have := h4.1 x (by simp)
      have := sumD_pos fun y hy => (h4.1 y (List.mem_cons_of_mem _ hy)).1
      simp only [sumD, List.map_cons, List.sum_cons] at *
      omega
  exact ⟨h2.1, h1.2.1, by omega, hC.f1, hC.f2⟩
theorem begins_len {F : List Seg} {w : Win} {L : List Leg} : (beginsF F w L).1.length ≤ 4097 := by
  by_cases hc : (checkF F w L).2 = 0
  · have h := checkF_ok.1 hc
    have hl := (lenF_ok h.len).1
    unfold beginsF
    rw [if_neg (by rw [hc]; simp), checkF_len h]
    by_cases hs : w.t - w.f < sumD L
    · rw [if_pos hs]; simp
    · rw [if_neg hs]
      have h1 := legs_parted (lo := w.f) (hi := w.t - sumD L + 1) (mayF_rise h.may) h.w1 L 0 [⟨w.f, w.t - sumD L + 1⟩] (fun x hx => (hl x hx).1) ⟨by simp, fun r hr => by simp at hr; subst hr; dsimp only; omega⟩
      have h2 := h1.length (by omega)
      have h3 := h.w2
      have h4 := sumD_pos fun x hx => (hl x hx).1
      dsimp only
      omega
  · unfold beginsF
    rw [if_pos hc]
    simp

set_option maxHeartbeats 1000000 in
theorem slot_earliest (A A' : Option Addr) (F : List Seg) (L : List Leg) (c c' : Nat) (f t : Int) (w : World) (hn : F.length ≤ 100000) (hl : L.length ≤ 1000000) (hF : Segs w w.heap.size A F) (hL : Legs w w.heap.size A' L)
    (hf : -9223372036854775808 ≤ f ∧ f ≤ 9223372036854775807) (ht : -9223372036854775808 ≤ t ∧ t ≤ 9223372036854775807) :
    Calls Try.prog 23 #[.slice A F.length c, .agg #[.int .i64 f, .int .i64 t], .slice A' L.length c'] w fun e w' =>
      e = .returned (.tuple #[.int .i64 (firstF F ⟨f, t⟩ L).1, .int .i64 (firstF F ⟨f, t⟩ L).2]) ∧ Below w.heap.size w w' := by
  have hb := slot_begins A A' F L c c' f t (w.alloc (.cells #[.int .i64 f, .int .i64 t] 24)) hn hl (hF.bl (bl_alloc bl_refl)) (hL.bl (bl_alloc bl_refl)) hf ht
  have hlen := begins_len (F := F) (w := ⟨f, t⟩) (L := L)
  unfold firstF
  obtain ⟨r, hr⟩ : ∃ r, beginsF F ⟨f, t⟩ L = r := ⟨_, rfl⟩
  rw [hr] at hb hlen ⊢
  obtain ⟨b, e⟩ := r
  dsimp only at hb hlen ⊢
  clear hF hL hr hf ht
  by_cases he : e = 0
  · subst he
    rw [if_neg (by simp)]
    cases b with
    | nil =>
      go_enter Try.func23, Try.ntmps23
      go_wp2_with (first
        | (go_at_call 9; refine hb.mono ?_; clear hb; rintro e w1 ⟨⟨v1, rfl, hrd⟩, hb1⟩; obtain ⟨A1, c1, rfl, hc1, hr1⟩ := hrd; have HR := Lib.hid (And.intro hc1 hr1); clear hc1 hr1)
        | (go_at_call 47; refine (slot_end0 _ _ _ _ _).mono ?_; rintro e w2 ⟨rfl, rfl⟩))
      go_ret2
      exact ⟨rfl, bl_trans (bl_alloc bl_refl) hb1⟩
    | cons x xs =>
      simp only [List.length_cons] at hlen
      go_enter Try.func23, Try.ntmps23
      go_wp2_with (first
        | (go_at_call 9; refine hb.mono ?_; clear hb; rintro e w1 ⟨⟨v1, rfl, hrd⟩, hb1⟩; obtain ⟨A1, c1, rfl, hc1, hr1⟩ := hrd; have HR := Lib.hid (And.intro hc1 hr1); clear hc1 hr1)
        | (go_at_call 47; refine (slot_end1 _ _ _ _ _ x.f first_in (by omega) (slot_first _ x xs _ _ (by omega) HR.out.2)).mono ?_; rintro e w2 ⟨rfl, rfl⟩))
      go_ret2
      exact ⟨rfl, bl_trans (bl_alloc bl_refl) hb1⟩
  · rw [if_pos he]
    have e1 : (e == 0) = false := by simpa using he
    have e2 : (e != 0) = true := by simpa using he
    clear he
    go_enter Try.func23, Try.ntmps23
    go_wp2_with (go_at_call 9; refine hb.mono ?_; clear hb; rintro e w1 ⟨⟨v1, rfl, hrd⟩, hb1⟩; obtain ⟨A1, c1, rfl, hc1, hr1⟩ := hrd; clear hc1 hr1)
    go_ret2
    exact ⟨rfl, bl_trans (bl_alloc bl_refl) hb1⟩

set_option maxHeartbeats 1000000 in
theorem slot_latest (A A' : Option Addr) (F : List Seg) (L : List Leg) (c c' : Nat) (f t : Int) (w : World) (hn : F.length ≤ 100000) (hl : L.length ≤ 1000000) (hF : Segs w w.heap.size A F) (hL : Legs w w.heap.size A' L)
    (hf : -9223372036854775808 ≤ f ∧ f ≤ 9223372036854775807) (ht : -9223372036854775808 ≤ t ∧ t ≤ 9223372036854775807) :
    Calls Try.prog 24 #[.slice A F.length c, .agg #[.int .i64 f, .int .i64 t], .slice A' L.length c'] w fun e w' =>
      e = .returned (.tuple #[.int .i64 (lastF F ⟨f, t⟩ L).1, .int .i64 (lastF F ⟨f, t⟩ L).2]) ∧ Below w.heap.size w w' := by
  have hb := slot_begins A A' F L c c' f t (w.alloc (.cells #[.int .i64 f, .int .i64 t] 24)) hn hl (hF.bl (bl_alloc bl_refl)) (hL.bl (bl_alloc bl_refl)) hf ht
  have hlen := begins_len (F := F) (w := ⟨f, t⟩) (L := L)
  have hbd := begins_bd (F := F) (w := ⟨f, t⟩) (L := L)
  unfold lastF
  obtain ⟨r, hr⟩ : ∃ r, beginsF F ⟨f, t⟩ L = r := ⟨_, rfl⟩
  rw [hr] at hb hlen hbd ⊢
  obtain ⟨b, e⟩ := r
  dsimp only at hb hlen hbd ⊢
  clear hF hL hr hf ht
  by_cases he : e = 0
  · subst he
    rw [if_neg (by simp)]
    rcases List.eq_nil_or_concat b with rfl | ⟨xs, x, rfl⟩
    · clear hbd
      go_enter Try.func24, Try.ntmps24
      go_wp2_with (first
        | (go_at_call 9; refine hb.mono ?_; clear hb; rintro e w1 ⟨⟨v1, rfl, hrd⟩, hb1⟩; obtain ⟨A1, c1, rfl, hc1, hr1⟩ := hrd; have HR := Lib.hid (And.intro hc1 hr1); clear hc1 hr1)
        | (go_at_call 47; refine (slot_end0 _ _ _ _ _).mono ?_; rintro e w2 ⟨rfl, rfl⟩))
      go_ret2
      exact ⟨rfl, bl_trans (bl_alloc bl_refl) hb1⟩
    · rw [List.concat_eq_append] at hlen hbd hb ⊢
      have hx := hbd rfl x (by simp)
      have hg : (xs ++ [x]).getLast? = some x := by simp
      have hll : (xs ++ [x]).length = xs.length + 1 := by simp
      rw [hg]
      dsimp only
      rw [hll] at hlen
      clear hg hll
      have h1 : -9000000000000000000 ≤ x.t ∧ x.t ≤ 9000000000000000000 := by omega
      clear hbd
      go_enter Try.func24, Try.ntmps24
      go_wp2_with (first
        | (go_at_call 9; refine hb.mono ?_; clear hb; rintro e w1 ⟨⟨v1, rfl, hrd⟩, hb1⟩; obtain ⟨A1, c1, rfl, hc1, hr1⟩ := hrd; (try simp only [List.length_append, List.length_cons, List.length_nil, Nat.zero_add]); have HR := Lib.hid (And.intro hc1 hr1); clear hc1 hr1)
        | (go_at_call 47; refine (slot_end1 _ _ _ _ _ (x.t - 1) last_in (by omega) (slot_last _ x xs _ _ (by omega) HR.out.2 h1)).mono ?_; rintro e w2 ⟨rfl, rfl⟩))
      go_ret2
      exact ⟨rfl, bl_trans (bl_alloc bl_refl) hb1⟩
  · rw [if_pos he]
    have e1 : (e == 0) = false := by simpa using he
    have e2 : (e != 0) = true := by simpa using he
    clear he hbd
    go_enter Try.func24, Try.ntmps24
    go_wp2_with (go_at_call 9; refine hb.mono ?_; clear hb; rintro e w1 ⟨⟨v1, rfl, hrd⟩, hb1⟩; obtain ⟨A1, c1, rfl, hc1, hr1⟩ := hrd; clear hc1 hr1)
    go_ret2
    exact ⟨rfl, bl_trans (bl_alloc bl_refl) hb1⟩

end Go.Proofs.Ytdbogephaddbjaa
