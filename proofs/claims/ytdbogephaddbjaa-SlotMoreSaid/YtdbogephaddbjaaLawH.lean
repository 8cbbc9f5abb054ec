/- liverylaw16.head is true. -/
import Derived.Test.YtdbogephaddbjaaLawS
import Derived.Deep.Cut
import Derived.Tactics
import Derived.Tactics2
import Derived.WalkKit
import Derived.LoopTactic
import Derived.WalkLawsBesides
import Derived.WalkSpells
import Derived.Outline
import Derived.Deep.QuietTactic
import Derived.BigQuiet
import Derived.Deep.DeepCutAuto
import Derived.Deep.LoopGhost
import Derived.Deep.RegionHeld3
import Derived.RegionTactic
import Derived.KernelRfl
import Derived.Lib.Hide
set_option linter.unusedVariables false
set_option linter.unusedSimpArgs false
namespace Go.Proofs.Ytdbogephaddbjaa
open Go.RowKit
attribute [local go_sem] Oper.semAt_some

def hf : List Seg := [⟨0, ⟨5, 5⟩⟩, ⟨10, ⟨2, 2⟩⟩, ⟨12, ⟨5, 5⟩⟩, ⟨20, ⟨0, 0⟩⟩]
def hl1 : List Leg := [⟨4, ⟨3, 3⟩⟩]
def hm1 : List Leg := [⟨4, ⟨3, 3⟩⟩, ⟨2, ⟨1, 1⟩⟩]
theorem h_begins1 : beginsF hf ⟨0, 30⟩ hl1 = ([⟨0, 7⟩, ⟨12, 17⟩], 0) := by decide +kernel
theorem h_begins2 : beginsF hf ⟨0, 30⟩ hm1 = ([⟨0, 7⟩, ⟨12, 15⟩], 0) := by decide +kernel
theorem h_first1 : firstF hf ⟨0, 30⟩ hl1 = (0, 0) := by decide +kernel
theorem h_last1 : lastF hf ⟨0, 30⟩ hl1 = (16, 0) := by decide +kernel
theorem h_first2 : firstF hf ⟨7, 30⟩ hl1 = (12, 0) := by decide +kernel
theorem h_first3 : firstF hf ⟨7, 15⟩ hl1 = (0, 210) := by decide +kernel
theorem h_first4 : firstF hf ⟨7, 7⟩ hl1 = (0, 2) := by decide +kernel
theorem h_len : lenF hm1 = (6, 0) := by decide +kernel

theorem rows_new {α : Type} {k : Nat} {cells : α → List Value} (hk : ∀ x, (cells x).length = k) (w : World) (L : List α) (t : TypeId) : Rows k cells (w.alloc (.cells (flat cells L).toArray t)) (w.heap.size + 1) (some ⟨w.heap.size, 0, none⟩) L := fun _ =>
  ⟨w.heap.size, 0, rfl, by omega, fun i x hx j u hu => by
    have h := (Bx.new w (flat cells L) t).cell (i * k + j) (flat_get hk L i x hx j u hu)
    rw [Nat.zero_add]
    exact h⟩
theorem Rows.bl' {α : Type} {k : Nat} {cells : α → List Value} {w w' : World} {A : Option Addr} {L : List α} {B : Nat} (h : Rows k cells w B A L) (hb : Below w.heap.size w w') (hB : B ≤ w.heap.size := by first | exact Nat.le_refl _ | (simp; done)) : Rows k cells w' w'.heap.size A L := (h.more hB).bl hb
theorem leg_len (x : Leg) : x.cells.length = 3 := rfl

theorem wp_forget {P : Program} {c : Code} {Q : Exit → Act → World → Prop} {a : Act} {W : World} (R : World → Prop) (h : R W) (k : ∀ W', R W' → c.wp P Q a W') : c.wp P Q a W := k W h
/-- What stands where head has laid its data. -/
structure HeadA (w W : World) (b1 : Nat) : Prop where
  lo : Below w.heap.size w W
  f : Segs W W.heap.size (some ⟨b1, 0, none⟩) hf
  w : Bx W (b1 + 1) [.int .i64 0, .int .i64 30]
theorem HeadA.bl {w W W' : World} {b1 : Nat} (h : HeadA w W b1) (hb : Below W.heap.size W W') : HeadA w W' b1 := ⟨h.lo.trans (hb.mono h.lo.size), h.f.bl hb, h.w.bl hb⟩
structure HeadB (w W : World) (b1 b3 b4 : Nat) : Prop where
  a : HeadA w W b1
  l : Legs W W.heap.size (some ⟨b3, 0, none⟩) hl1
  m : Legs W W.heap.size (some ⟨b4, 0, none⟩) hm1

theorem same_two (A : Option Addr) (n : Nat) (x y : Win) (w : World) (h : Wins w w.heap.size A [x, y]) :
    Calls Try.prog 26 #[.slice A 2 n, .slice (some ⟨w.heap.size, 0, none⟩) 2 2] (w.alloc (.cells #[.int .i64 x.f, .int .i64 x.t, .int .i64 y.f, .int .i64 y.t] 24)) fun e w' =>
      e = .returned (.bool true) ∧ Below (w.alloc (.cells #[.int .i64 x.f, .int .i64 x.t, .int .i64 y.f, .int .i64 y.t] 24)).heap.size (w.alloc (.cells #[.int .i64 x.f, .int .i64 x.t, .int .i64 y.f, .int .i64 y.t] 24)) w' := by
  have h1 : Wins (w.alloc (.cells #[.int .i64 x.f, .int .i64 x.t, .int .i64 y.f, .int .i64 y.t] 24)) (w.heap.size + 1) (some ⟨w.heap.size, 0, none⟩) [x, y] := rows_new win_len w [x, y] 24
  refine (law_same A (some ⟨w.heap.size, 0, none⟩) [x, y] [x, y] n 2 _ (by simp) (by simp) (h.bl (bl_alloc bl_refl)) (h1.more (by simp))).mono ?_
  rintro e w' ⟨rfl, hb⟩
  exact ⟨ret_bool (by simp), hb⟩

set_option maxRecDepth 100000 in
set_option maxHeartbeats 2000000 in
theorem law_head (w : World) : Calls Try.prog 8 #[] w fun e w' => e = .returned (.bool true) ∧ Below w.heap.size w w' := by
  go_enter Try.func8, Try.ntmps8
  go_upto_region 3 with (go_at_call 22; refine (law_v _ _).mono ?_; rintro e w1 ⟨rfl, hb1⟩)
  have hB1 : Below w.heap.size w w1 := by (repeat (first | exact bl_refl | assumption | apply bl_alloc | apply bl_drew | apply bl_drewN | (apply bl_set; (case hp => first | (simp; done) | (simp; omega))) | (apply bl_trans2; (case k => assumption))))
  obtain ⟨b1, hz1⟩ : ∃ b1, w1.heap.size = b1 := ⟨_, rfl⟩
  rw [hz1]
  refine wp_forget (fun W => HeadA w W b1) ?_ ?_
  · rw [← hz1]
    have hF := (rows_new seg_len w1 hf 62).bl' (bl_alloc (o := .cells #[.int .i64 0, .int .i64 30] 24) bl_refl)
    have hW := Bx.new (w1.alloc (.cells (flat Seg.cells hf).toArray 62)) [.int .i64 0, .int .i64 30] 24
    rw [World.size_alloc] at hW
    exact ⟨by (repeat (first | exact bl_refl | assumption | apply bl_alloc | apply bl_drew | apply bl_drewN | (apply bl_set; (case hp => first | (simp; done) | (simp; omega))) | (apply bl_trans2; (case k => assumption)))), hF, hW⟩
  clear hz1 hB1 hb1
  intro Wa hA
  have HA := Lib.hid hA
  clear hA
  go_upto_region 4 with (go_at_call 22; refine (law_v _ _).mono ?_; rintro e w2 ⟨rfl, hb2⟩)
  obtain ⟨b3, hz3⟩ : ∃ b3, w2.heap.size = b3 := ⟨_, rfl⟩
  rw [hz3]
  refine wp_forget (fun W => HeadA w W b1 ∧ Legs W W.heap.size (some ⟨b3, 0, none⟩) hl1) ?_ ?_
  · rw [← hz3]
    exact ⟨(HA.out.bl hb2).bl (bl_alloc bl_refl), (rows_new leg_len w2 hl1 53).more (by simp)⟩
  clear hz3 hb2
  rintro Wb ⟨hA, hL⟩
  have HA := Lib.hid (And.intro hA hL)
  clear hA hL
  go_upto_region 5 with (go_at_call 22; refine (law_v _ _).mono ?_; rintro e w3 ⟨rfl, hb3⟩)
  obtain ⟨b4, hz4⟩ : ∃ b4, w3.heap.size = b4 := ⟨_, rfl⟩
  rw [hz4]
  refine wp_forget (fun W => HeadB w W b1 b3 b4) ?_ ?_
  · rw [← hz4]
    have hb : Below Wb.heap.size Wb w3 := by (repeat (first | exact bl_refl | assumption | apply bl_alloc | apply bl_drew | apply bl_drewN | (apply bl_set; (case hp => first | (simp; done) | (simp; omega))) | (apply bl_trans2; (case k => assumption))))
    exact ⟨(HA.out.1.bl hb).bl (bl_alloc bl_refl), (HA.out.2.bl hb).bl (bl_alloc bl_refl), (rows_new leg_len w3 hm1 53).more (by simp)⟩
  clear hz4 hb3
  rintro W0 hB
  have k1 : W0.cell? ⟨b1 + 1, 0, none⟩ = some (.int .i64 0) := hB.a.w.cell 0 rfl
  have k2 : W0.cell? ⟨b1 + 1, 1, none⟩ = some (.int .i64 30) := hB.a.w.cell 1 rfl
  have klt := hB.a.w.lt
  have c1 := fun (W : World) (hW : Below W0.heap.size W0 W) (f t : Int) h1 h2 => slot_begins (some ⟨b1, 0, none⟩) (some ⟨b3, 0, none⟩) hf hl1 4 1 f t W (by decide) (by decide) (hB.a.f.bl hW) (hB.l.bl hW) h1 h2
  have c2 := fun (W : World) (hW : Below W0.heap.size W0 W) (f t : Int) h1 h2 => slot_begins (some ⟨b1, 0, none⟩) (some ⟨b4, 0, none⟩) hf hm1 4 2 f t W (by decide) (by decide) (hB.a.f.bl hW) (hB.m.bl hW) h1 h2
  have c3 := fun (W : World) (hW : Below W0.heap.size W0 W) (f t : Int) h1 h2 => slot_earliest (some ⟨b1, 0, none⟩) (some ⟨b3, 0, none⟩) hf hl1 4 1 f t W (by decide) (by decide) (hB.a.f.bl hW) (hB.l.bl hW) h1 h2
  have c4 := fun (W : World) (hW : Below W0.heap.size W0 W) (f t : Int) h1 h2 => slot_latest (some ⟨b1, 0, none⟩) (some ⟨b3, 0, none⟩) hf hl1 4 1 f t W (by decide) (by decide) (hB.a.f.bl hW) (hB.l.bl hW) h1 h2
  have c5 := fun (W : World) (hW : Below W0.heap.size W0 W) => slot_length (some ⟨b4, 0, none⟩) hm1 2 W (by decide) (hB.m.bl hW)
  have C := Lib.hid (And.intro c1 (And.intro c2 (And.intro c3 (And.intro c4 (And.intro c5 hB)))))
  clear c1 c2 c3 c4 c5 hB
  have hB0 : Below W0.heap.size W0 W0 := bl_refl
  go_upto_region 6 with (go_at_call 9; refine (C.out.1 _ (by (repeat (first | exact bl_refl | assumption | apply bl_alloc | apply bl_drew | apply bl_drewN | (apply bl_set; (case hp => first | (simp; done) | (simp; omega))) | (apply bl_trans2; (case k => assumption))))) 0 30 (by decide) (by decide)).mono ?_; rw [h_begins1]; rintro e w1 ⟨⟨v1, rfl, hr1⟩, hb1⟩; have hB1 : Below W0.heap.size W0 w1 := bl_trans hB0 hb1; have k11 := bl_cell hB1 k1; have k21 := bl_cell hB1 k2; obtain ⟨A1, n1, rfl, hn1, hr1⟩ := hr1; have R1 := Lib.hid hr1; clear hr1 hn1)
  go_upto_region 7 with (go_at_call 23; refine (C.out.2.2.1 _ (by (repeat (first | exact bl_refl | assumption | apply bl_alloc | apply bl_drew | apply bl_drewN | (apply bl_set; (case hp => first | (simp; done) | (simp; omega))) | (apply bl_trans2; (case k => assumption))))) 0 30 (by decide) (by decide)).mono ?_; rw [h_first1]; rintro e w2 ⟨rfl, hb2⟩; have hB2 : Below W0.heap.size W0 w2 := bl_trans hB1 hb2; have k12 := bl_cell hB2 k1; have k22 := bl_cell hB2 k2)
  go_upto_region 8 with (go_at_call 24; refine (C.out.2.2.2.1 _ (by (repeat (first | exact bl_refl | assumption | apply bl_alloc | apply bl_drew | apply bl_drewN | (apply bl_set; (case hp => first | (simp; done) | (simp; omega))) | (apply bl_trans2; (case k => assumption))))) 0 30 (by decide) (by decide)).mono ?_; rw [h_last1]; rintro e w3 ⟨rfl, hb3⟩; have hB3 : Below W0.heap.size W0 w3 := bl_trans hB2 hb3; have k13 := bl_cell hB3 k1; have k23 := bl_cell hB3 k2)
  go_upto_region 9 with (go_at_call 23; refine (C.out.2.2.1 _ (by (repeat (first | exact bl_refl | assumption | apply bl_alloc | apply bl_drew | apply bl_drewN | (apply bl_set; (case hp => first | (simp; done) | (simp; omega))) | (apply bl_trans2; (case k => assumption))))) 7 30 (by decide) (by decide)).mono ?_; rw [h_first2]; rintro e w4 ⟨rfl, hb4⟩; have hB4 : Below W0.heap.size W0 w4 := bl_trans hB3 hb4; have k14 := bl_cell hB4 k1; have k24 := bl_cell hB4 k2)
  go_upto_region 10 with (go_at_call 9; refine (C.out.2.1 _ (by (repeat (first | exact bl_refl | assumption | apply bl_alloc | apply bl_drew | apply bl_drewN | (apply bl_set; (case hp => first | (simp; done) | (simp; omega))) | (apply bl_trans2; (case k => assumption))))) 0 30 (by decide) (by decide)).mono ?_; rw [h_begins2]; rintro e w5 ⟨⟨v5, rfl, hr5⟩, hb5⟩; have hB5 : Below W0.heap.size W0 w5 := bl_trans hB4 hb5; have k15 := bl_cell hB5 k1; have k25 := bl_cell hB5 k2; obtain ⟨A5, n5, rfl, hn5, hr5⟩ := hr5; have R5 := Lib.hid hr5; clear hr5 hn5)
  go_upto_region 11 with (go_at_call 25; refine (C.out.2.2.2.2.1 _ (by (repeat (first | exact bl_refl | assumption | apply bl_alloc | apply bl_drew | apply bl_drewN | (apply bl_set; (case hp => first | (simp; done) | (simp; omega))) | (apply bl_trans2; (case k => assumption)))))).mono ?_; rw [h_len]; rintro e w6 ⟨rfl, hb6⟩; have hB6 : Below W0.heap.size W0 w6 := bl_trans hB5 hb6; have k16 := bl_cell hB6 k1; have k26 := bl_cell hB6 k2)
  go_upto_region 12 with (go_at_call 23; refine (C.out.2.2.1 _ (by (repeat (first | exact bl_refl | assumption | apply bl_alloc | apply bl_drew | apply bl_drewN | (apply bl_set; (case hp => first | (simp; done) | (simp; omega))) | (apply bl_trans2; (case k => assumption))))) 7 15 (by decide) (by decide)).mono ?_; rw [h_first3]; rintro e w7 ⟨rfl, hb7⟩; have hB7 : Below W0.heap.size W0 w7 := bl_trans hB6 hb7; have k17 := bl_cell hB7 k1; have k27 := bl_cell hB7 k2)
  go_upto_region 13 with (go_at_call 23; refine (C.out.2.2.1 _ (by (repeat (first | exact bl_refl | assumption | apply bl_alloc | apply bl_drew | apply bl_drewN | (apply bl_set; (case hp => first | (simp; done) | (simp; omega))) | (apply bl_trans2; (case k => assumption))))) 7 7 (by decide) (by decide)).mono ?_; rw [h_first4]; rintro e w8 ⟨rfl, hb8⟩; have hB8 : Below W0.heap.size W0 w8 := bl_trans hB7 hb8; have k18 := bl_cell hB8 k1; have k28 := bl_cell hB8 k2)
  have hbB : Below w5.heap.size w5 w8 := bl_trans hb6 (bl_trans hb7 hb8)
  have hbA : Below w1.heap.size w1 w8 := bl_trans hb2 (bl_trans hb3 (bl_trans hb4 (bl_trans hb5 hbB)))
  have RA := Lib.hid (R1.out.bl hbA)
  have RB := Lib.hid (R5.out.bl hbB)
  have hw : Below w.heap.size w w8 := C.out.2.2.2.2.2.a.lo.trans (hB8.mono C.out.2.2.2.2.2.a.lo.size)
  have HW := Lib.hid hw
  clear hb1 hb2 hb3 hb4 hb5 hb6 hb7 hb8 hB0 hB1 hB2 hB3 hB4 hB5 hB6 hB7 hB8 k11 k12 k13 k14 k15 k16 k17 k18 k21 k22 k23 k24 k25 k26 k27 k28 k1 k2 hbA hbB R1 R5 C hw klt
  have q1 : Calls Try.prog 26 #[.slice A1 2 n1, .slice (some ⟨w8.heap.size, 0, none⟩) 2 2] (w8.alloc (.cells #[.int .i64 0, .int .i64 7, .int .i64 12, .int .i64 17] 24)) fun e w' => e = .returned (.bool true) ∧ Below (w8.alloc (.cells #[.int .i64 0, .int .i64 7, .int .i64 12, .int .i64 17] 24)).heap.size (w8.alloc (.cells #[.int .i64 0, .int .i64 7, .int .i64 12, .int .i64 17] 24)) w' :=
    same_two A1 n1 ⟨0, 7⟩ ⟨12, 17⟩ w8 RA.out
  have q2 : ∀ W, Below w8.heap.size w8 W → Calls Try.prog 26 #[.slice A5 2 n5, .slice (some ⟨W.heap.size, 0, none⟩) 2 2] (W.alloc (.cells #[.int .i64 0, .int .i64 7, .int .i64 12, .int .i64 15] 24)) fun e w' => e = .returned (.bool true) ∧ Below (W.alloc (.cells #[.int .i64 0, .int .i64 7, .int .i64 12, .int .i64 15] 24)).heap.size (W.alloc (.cells #[.int .i64 0, .int .i64 7, .int .i64 12, .int .i64 15] 24)) w' :=
    fun W hW => same_two A5 n5 ⟨0, 7⟩ ⟨12, 15⟩ W (RB.out.bl hW)
  have Q2 := Lib.hid q2
  clear q2 RA RB
  go_wp2_with (first
    | (go_at_call 26; refine q1.mono ?_; clear q1; rintro e w9 ⟨rfl, hb9⟩; have q2 := Q2.out w9 (bl_trans (bl_alloc bl_refl) hb9); clear Q2)
    | (go_at_call 26; refine q2.mono ?_; clear q2; rintro e w10 ⟨rfl, hb10⟩))
  go_ret
  exact ⟨rfl, HW.out.trans ((bl_trans (bl_trans (bl_alloc bl_refl) hb9) (bl_trans (bl_alloc bl_refl) hb10)).mono HW.out.size)⟩

end Go.Proofs.Ytdbogephaddbjaa
