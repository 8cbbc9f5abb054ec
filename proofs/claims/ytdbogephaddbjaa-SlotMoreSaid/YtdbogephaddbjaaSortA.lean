/- Sorting in place: exchanges of runs, slices' swapRange and rotate. -/
import Derived.Test.YtdbogephaddbjaaRleB
import Derived.Test.YtdbogephaddbjaaSortP
import Derived.BigRegion
import Derived.Tactics
import Derived.Tactics2
import Derived.WalkKit
import Derived.LoopTactic
import Derived.WalkLawsBesides
import Derived.WalkSpells
import Derived.Outline
import Derived.Deep.QuietTactic
import Derived.BigQuiet
import Derived.Deep.DeepCutAuto
import Derived.Deep.LoopGhost
import Derived.Deep.RegionHeld3
import Derived.RegionTactic
import Derived.KernelRfl
import Derived.Lib.Hide
set_option linter.unusedVariables false
set_option linter.unusedSimpArgs false
namespace Go.Proofs.Ytdbogephaddbjaa
open Go.RowKit

/-- The n runs at ⟨b, off⟩ are those of F, and may be written. -/
def SegArr (W : World) (b off n : Nat) (F : Nat → Seg) : Prop :=
  ∀ i, i < n → W.cell? ⟨b, off + i * 3, none⟩ = some (.int .i64 (F i).at_) ∧ W.cell? ⟨b, off + i * 3 + 1, none⟩ = some (.int .i64 (F i).v.m) ∧ W.cell? ⟨b, off + i * 3 + 2, none⟩ = some (.int .i64 (F i).v.c) ∧
    W.frozen? ⟨b, off + i * 3, none⟩ = false ∧ W.frozen? ⟨b, off + i * 3 + 1, none⟩ = false ∧ W.frozen? ⟨b, off + i * 3 + 2, none⟩ = false

theorem SegArr.congr {W : World} {b off n : Nat} {F G : Nat → Seg} (h : SegArr W b off n F) (e : ∀ i, i < n → G i = F i) : SegArr W b off n G := fun i hi => by
  rw [e i hi]; exact h i hi
theorem SegArr.mod {W W' : World} {b off n : Nat} {F : Nat → Seg} (h : SegArr W b off n F) {S : Nat → Prop} (hm : Mod S W W') (hb : ¬ S b) : SegArr W' b off n F := fun i hi => by
  obtain ⟨h1, h2, h3, h4, h5, h6⟩ := h i hi
  have hlt : b < W.heap.size := by have := lt_of_cell h1; simpa using this
  have hh := hm.block b hlt hb
  have ec : ∀ o, W'.cell? ⟨b, o, none⟩ = W.cell? ⟨b, o, none⟩ := fun o => World.cell?_of_block (w := W) hh
  have ef : ∀ o, W'.frozen? ⟨b, o, none⟩ = W.frozen? ⟨b, o, none⟩ := fun o => World.frozen?_of_block (w := W) hh
  exact ⟨(ec _).trans h1, (ec _).trans h2, (ec _).trans h3, (ef _).trans h4, (ef _).trans h5, (ef _).trans h6⟩

/-- One run is stored. -/
theorem SegArr.put {W : World} {b off n : Nat} {F : Nat → Seg} (h : SegArr W b off n F) (x : Nat) (v : Seg) :
    SegArr (((W.setCell ⟨b, off + x * 3, none⟩ (.int .i64 v.at_)).setCell ⟨b, off + x * 3 + 1, none⟩ (.int .i64 v.v.m)).setCell ⟨b, off + x * 3 + 2, none⟩ (.int .i64 v.v.c)) b off n (fun k => if k = x then v else F k) := fun i hi => by
  obtain ⟨h1, h2, h3, h4, h5, h6⟩ := h i hi
  have nz : ∀ (W : World) (o o' : Nat) (u : Value), o ≠ o' → (W.setCell ⟨b, o, none⟩ u).cell? ⟨b, o', none⟩ = W.cell? ⟨b, o', none⟩ := fun W o o' u hne =>
    World.cell?_setCell_other W ⟨b, o, none⟩ ⟨b, o', none⟩ u (fun e => hne (by injection e))
  have sm : ∀ (W : World) (o : Nat) (u : Value), (W.cell? ⟨b, o, none⟩).isSome → (W.setCell ⟨b, o, none⟩ u).cell? ⟨b, o, none⟩ = some u := fun W o u hs => World.cell?_setCell_same' _ _ _ hs
  simp only [World.frozen?_setCell]
  refine ⟨?_, ?_, ?_, h4, h5, h6⟩
  · split
    · rename_i e; subst e
      rw [nz _ _ _ _ (by omega), nz _ _ _ _ (by omega)]
      exact sm _ _ _ (by rw [h1]; rfl)
    · rw [nz _ _ _ _ (by omega), nz _ _ _ _ (by omega), nz _ _ _ _ (by omega)]
      exact h1
  · split
    · rename_i e; subst e
      rw [nz _ _ _ _ (by omega)]
      exact sm _ _ _ (by rw [nz _ _ _ _ (by omega), h2]; rfl)
    · rw [nz _ _ _ _ (by omega), nz _ _ _ _ (by omega), nz _ _ _ _ (by omega)]
      exact h2
  · split
    · rename_i e; subst e
      exact sm _ _ _ (by rw [nz _ _ _ _ (by omega), nz _ _ _ _ (by omega), h3]; rfl)
    · rw [nz _ _ _ _ (by omega), nz _ _ _ _ (by omega), nz _ _ _ _ (by omega)]
      exact h3
theorem SegArr.swap {W : World} {b off n : Nat} {F : Nat → Seg} (h : SegArr W b off n F) (x y : Nat) (vx vy : Seg) (ex : F x = vx) (ey : F y = vy) :
    SegArr ((((((W.setCell ⟨b, off + x * 3, none⟩ (.int .i64 vy.at_)).setCell ⟨b, off + x * 3 + 1, none⟩ (.int .i64 vy.v.m)).setCell ⟨b, off + x * 3 + 2, none⟩ (.int .i64 vy.v.c)).setCell
      ⟨b, off + y * 3, none⟩ (.int .i64 vx.at_)).setCell ⟨b, off + y * 3 + 1, none⟩ (.int .i64 vx.v.m)).setCell ⟨b, off + y * 3 + 2, none⟩ (.int .i64 vx.v.c)) b off n (swp F x y) := by
  refine ((h.put x vy).put y vx).congr fun i _ => ?_
  unfold swp
  subst ex ey
  by_cases h1 : i = x <;> by_cases h2 : i = y
  · subst h1; subst h2; simp
  · simp only [if_pos h1, if_neg h2]
  · simp only [if_pos h2, if_neg h1]
  · simp only [if_neg h1, if_neg h2]
theorem Mod.setB {a w : World} {b : Nat} (h : Mod (fun k => k = b) a w) (o : Nat) (u : Value) : Mod (fun k => k = b) a (w.setCell ⟨b, o, none⟩ u) := h.setCell (p := ⟨b, o, none⟩) rfl u
theorem SegArr.drew {W : World} {b off n : Nat} {F : Nat → Seg} (h : SegArr W b off n F) : SegArr W.drew b off n F := h

/-- What swapRange leaves. -/
def swpR {α : Type} (F : Nat → α) (x y m : Nat) : Nat → α := fun k => if x ≤ k ∧ k < x + m then F (y + (k - x)) else if y ≤ k ∧ k < y + m then F (x + (k - y)) else F k

set_option maxRecDepth 10000 in
set_option maxHeartbeats 2000000 in
theorem swapRange_seg (b off n cap x y m : Nat) (v : Value) (F : Nat → Seg) (w : World) (hn : n ≤ 1000000) (hxy : x + m ≤ y) (hy : y + m ≤ n) (hF : SegArr w b off n F) :
    Calls Try.prog 114 #[.slice (some ⟨b, off, none⟩) n cap, .int .i64 x, .int .i64 y, .int .i64 m, v] w fun e w' =>
      (∃ r, e = .returned r) ∧ SegArr w' b off n (swpR F x y m) ∧ Mod (fun k => k = b) w w' := by
  go_enter Try.func114, Try.ntmps114
  go_wp2
  go_loopw [10] (fun i W => ∃ k : Nat, k ≤ m ∧ i = .int .i64 k ∧ SegArr W b off n (swpR F x y k) ∧ Mod (fun k => k = b) w W) (fun i _ => m - (intOf i).toNat)
  case atStart =>
    refine ⟨0, Nat.zero_le _, rfl, hF.congr fun i _ => ?_, Mod.refl⟩
    unfold swpR
    rw [if_neg (by omega), if_neg (by omega)]
  case round =>
    obtain ⟨k, hk, rfl, hA, hM⟩ := hrel
    by_cases hlt : k < m
    · obtain ⟨p, hp⟩ : ∃ p, p = x + k := ⟨_, rfl⟩
      obtain ⟨q, hq⟩ : ∃ q, q = y + k := ⟨_, rfl⟩
      have e1 : IntKind.i64.wrap ((x : Int) + k) = (p : Int) := by rw [IntWalk.i64_in _ (by omega)]; omega
      have e2 : IntKind.i64.wrap ((y : Int) + k) = (q : Int) := by rw [IntWalk.i64_in _ (by omega)]; omega
      obtain ⟨p1, p2, p3, p4, p5, p6⟩ := hA p (by omega)
      obtain ⟨q1, q2, q3, q4, q5, q6⟩ := hA q (by omega)
      have b1 : (0 : Int) ≤ p := by omega
      have b2 : (0 : Int) ≤ q := by omega
      have b3 : (p : Int) < n := by omega
      have b4 : (q : Int) < n := by omega
      have d1 : ¬ p = q := by omega
      have d2 : ¬ q = p := by omega
      have d3 : ¬ off + p * 3 = off + q * 3 + 1 := by omega
      have d4 : ¬ off + p * 3 = off + q * 3 + 2 := by omega
      have d5 : ¬ off + q * 3 = off + p * 3 + 1 := by omega
      have d6 : ¬ off + q * 3 = off + p * 3 + 2 := by omega
      have d7 : ¬ off + p * 3 + 1 = off + q * 3 := by omega
      have d8 : ¬ off + p * 3 + 2 = off + q * 3 := by omega
      have d9 : ¬ off + q * 3 + 1 = off + p * 3 := by omega
      have d10 : ¬ off + q * 3 + 2 = off + p * 3 := by omega
      have d11 : ¬ off + p * 3 + 1 = off + q * 3 + 2 := by omega
      have d12 : ¬ off + p * 3 + 2 = off + q * 3 + 1 := by omega
      have hm : m ≤ 1000000 := by omega
      have HA := Lib.hid hA
      have Hp := Lib.hid hp
      have Hq := Lib.hid hq
      have Hxy := Lib.hid hxy
      have Hy := Lib.hid hy
      generalize hvp : swpR F x y k p = vp at *
      generalize hvq : swpR F x y k q = vq at *
      have Hvp := Lib.hid hvp
      have Hvq := Lib.hid hvq
      clear hA hp hq hF hxy hy hvp hvq
      go_wp2
      go_region
      clear d1 d2 d3 d4 d5 d6 d7 d8 d9 d10 d11 d12 p1 p2 p3 p4 p5 p6 q1 q2 q3 q4 q5 q6 b1 b2 b3 b4 e1 e2
      go_wp2
      go_roundw
      case rel =>
        refine ⟨k + 1, by omega, by go_num, ?_, ?_⟩
        · refine ((HA.out.swap p q vp vq Hvp.out Hvq.out).drew).congr fun i _ => ?_
          have h1 := Hp.out
          have h2 := Hq.out
          have h3 := Hxy.out
          rw [swp, Hvp.out, Hvq.out, ← Hvp.out, ← Hvq.out]
          unfold swpR
          by_cases c1 : i = p
          · rw [if_pos (by omega), if_pos c1, if_neg (by omega), if_neg (by omega)]
            congr 1; omega
          · rw [if_neg c1]
            by_cases c2 : i = q
            · rw [if_neg (by omega), if_pos (by omega), if_pos c2, if_neg (by omega), if_neg (by omega)]
              congr 1; omega
            · rw [if_neg c2]
              by_cases c3 : x ≤ i ∧ i < x + k
              · rw [if_pos (by omega), if_pos c3]
              · rw [if_neg (by omega), if_neg c3]
                by_cases c4 : y ≤ i ∧ i < y + k
                · rw [if_pos (by omega), if_pos c4]
                · rw [if_neg (by omega), if_neg c4]
        · refine Mod.drew ?_
          repeat apply Mod.setB
          exact hM
      case measure => simp [intOf]; omega
    · obtain rfl : k = m := by omega
      go_wp2
      go_end0
      exact ⟨⟨_, rfl⟩, hA, hM⟩

theorem rotR_left {α : Type} (F : Nat → α) (m i j : Nat) (hj : 0 < j) (hij : j < i) (him : i ≤ m) (k : Nat) : rotR (swpR F (m - i) m j) (m - (i - j)) m (m + j) k = rotR F (m - i) m (m + j) k := by
  unfold rotR swpR
  repeat' split
  all_goals first | rfl | (exfalso; omega) | (refine congrArg F ?_; omega)
theorem rotR_right {α : Type} (F : Nat → α) (m i j : Nat) (hi : 0 < i) (hij : i < j) (him : i ≤ m) (k : Nat) : rotR (swpR F (m - i) (m + j - i) i) (m - i) m (m + (j - i)) k = rotR F (m - i) m (m + j) k := by
  unfold rotR swpR
  repeat' split
  all_goals first | rfl | (exfalso; omega) | (refine congrArg F ?_; omega)
theorem rotR_end {α : Type} (F : Nat → α) (m i : Nat) (hi : 0 < i) (him : i ≤ m) (k : Nat) : swpR F (m - i) m i k = rotR F (m - i) m (m + i) k := by
  unfold rotR swpR
  repeat' split
  all_goals first | rfl | (exfalso; omega) | (refine congrArg F ?_; omega)

set_option maxRecDepth 10000 in
set_option maxHeartbeats 2000000 in
theorem rotate_seg (b off n cap x m y : Nat) (v : Value) (F : Nat → Seg) (w : World) (hn : n ≤ 1000000) (hxm : x < m) (hmy : m < y) (hy : y ≤ n) (hF : SegArr w b off n F) :
    Calls Try.prog 113 #[.slice (some ⟨b, off, none⟩) n cap, .int .i64 x, .int .i64 m, .int .i64 y, v] w fun e w' =>
      (∃ r, e = .returned r) ∧ SegArr w' b off n (rotR F x m y) ∧ Mod (fun k => k = b) w w' := by
  obtain ⟨i0, hi0⟩ : ∃ i0, i0 = m - x := ⟨_, rfl⟩
  obtain ⟨j0, hj0⟩ : ∃ j0, j0 = y - m := ⟨_, rfl⟩
  have e1 : IntKind.i64.wrap ((m : Int) - x) = (i0 : Int) := by rw [IntWalk.i64_in _ (by omega)]; omega
  have e2 : IntKind.i64.wrap ((y : Int) - m) = (j0 : Int) := by rw [IntWalk.i64_in _ (by omega)]; omega
  have H0 := Lib.hid (And.intro hxm (And.intro hmy (And.intro hy (And.intro hi0 (And.intro hj0 hF)))))
  have hm : m ≤ 1000000 := by omega
  clear hxm hmy hy hi0 hj0 hF
  go_enter Try.func113, Try.ntmps113
  go_wp2
  clear e1 e2
  go_loopw [10, 11] (fun i j W => ∃ (p q : Nat) (G : Nat → Seg), 0 < p ∧ 0 < q ∧ p ≤ i0 ∧ q ≤ j0 ∧ i = .int .i64 p ∧ j = .int .i64 q ∧ SegArr W b off n G ∧ (∀ k, rotR G (m - p) m (m + q) k = rotR F x m y k) ∧ Mod (fun k => k = b) w W) (fun i j _ => (intOf i).toNat + (intOf j).toNat)
  case atStart =>
    obtain ⟨h1, h2, h3, h4, h5, h6⟩ := H0.out
    refine ⟨i0, j0, F, by omega, by omega, Nat.le_refl _, Nat.le_refl _, rfl, rfl, h6, fun k => ?_, Mod.refl⟩
    rw [show m - i0 = x by omega, show m + j0 = y by omega]
  case round =>
    obtain ⟨p, q, G, hp, hq, hpi, hqj, rfl, rfl, hG, hrot, hM⟩ := hrel
    obtain ⟨h1, h2, h3, h4, h5, h6⟩ := H0.out
    have hpm : p ≤ m := by omega
    have hmq : m + q ≤ n := by omega
    obtain ⟨z, hz⟩ : ∃ z, z = m - p := ⟨_, rfl⟩
    have e1 : IntKind.i64.wrap ((m : Int) - p) = (z : Int) := by rw [IntWalk.i64_in _ (by omega)]; omega
    have H1 := Lib.hid (And.intro h1 (And.intro h2 (And.intro h3 (And.intro h4 (And.intro h5 hrot)))))
    have Hz := Lib.hid hz
    rcases Nat.lt_trichotomy p q with hlt | heq | hgt
    · obtain ⟨z2, hz2⟩ : ∃ z2, z2 = m + q - p := ⟨_, rfl⟩
      obtain ⟨q2, hq2⟩ : ∃ q2, q2 = q - p := ⟨_, rfl⟩
      have e2 : IntKind.i64.wrap ((m : Int) + q) = (m : Int) + q := IntWalk.i64_in _ (by omega)
      have e3 : IntKind.i64.wrap ((m : Int) + q - p) = (z2 : Int) := by rw [IntWalk.i64_in _ (by omega)]; omega
      have e4 : IntKind.i64.wrap ((q : Int) - p) = (q2 : Int) := by rw [IntWalk.i64_in _ (by omega)]; omega
      have hc := swapRange_seg b off n cap z z2 p v G wr hn (by omega) (by omega) hG
      have b1 : ¬ ((q : Int) < p) := by omega
      have b2 : ¬ ((p : Int) = q) := by omega
      have b3 : ((p : Int) == q) = false := by simpa using b2
      have Hn := Lib.hid (And.intro hlt (And.intro hz2 hq2))
      clear hz hz2 hq2 hG hrot h1 h2 h3 h4 h5 h6 hlt b2
      go_wp2_with (go_at_call 114; refine hc.mono ?_; clear hc; rintro e w1 ⟨⟨r, rfl⟩, hA1, hM1⟩)
      go_roundw
      case rel =>
        obtain ⟨h1, h2, h3, h4, h5, hrot⟩ := H1.out
        obtain ⟨n0, n1, n2⟩ := Hn.out
        refine ⟨p, q2, _, hp, by omega, hpi, by omega, rfl, rfl, hA1, fun k => ?_, hM.trans hM1⟩
        rw [← hrot k, Hz.out, n1, n2]
        exact rotR_right G m p q hp (by omega) hpm k
      case measure => have := Hn.out; simp [intOf]; omega
    · subst heq
      have hc := swapRange_seg b off n cap z m p v G wr hn (by omega) (by omega) hG
      have b3 : ((p : Int) == p) = true := by simp
      clear hz hG hrot h1 h2 h3 h4 h5 h6
      go_wp2_with (go_at_call 114; refine hc.mono ?_; clear hc; rintro e w1 ⟨⟨r, rfl⟩, hA1, hM1⟩)
      go_end0
      refine ⟨⟨_, rfl⟩, hA1.congr fun k _ => ?_, hM.trans hM1⟩
      obtain ⟨h1, h2, h3, h4, h5, hrot⟩ := H1.out
      rw [← hrot k, Hz.out]
      exact (rotR_end G m p hp hpm k).symm
    · obtain ⟨q2, hq2⟩ : ∃ q2, q2 = p - q := ⟨_, rfl⟩
      have e4 : IntKind.i64.wrap ((p : Int) - q) = (q2 : Int) := by rw [IntWalk.i64_in _ (by omega)]; omega
      have hc := swapRange_seg b off n cap z m q v G wr hn (by omega) (by omega) hG
      have b1 : (q : Int) < p := by omega
      have b2 : ¬ ((p : Int) = q) := by omega
      have b3 : ((p : Int) == q) = false := by simpa using b2
      have Hn := Lib.hid (And.intro hgt hq2)
      clear hz hq2 hG hrot h1 h2 h3 h4 h5 h6 hgt b2
      go_wp2_with (go_at_call 114; refine hc.mono ?_; clear hc; rintro e w1 ⟨⟨r, rfl⟩, hA1, hM1⟩)
      go_roundw
      case rel =>
        obtain ⟨h1, h2, h3, h4, h5, hrot⟩ := H1.out
        obtain ⟨n0, n1⟩ := Hn.out
        refine ⟨q2, q, _, by omega, hq, by omega, hqj, rfl, rfl, hA1, fun k => ?_, hM.trans hM1⟩
        rw [← hrot k, Hz.out, n1]
        exact rotR_left G m p q hq (by omega) hpm k
      case measure => have := Hn.out; simp [intOf]; omega

end Go.Proofs.Ytdbogephaddbjaa
