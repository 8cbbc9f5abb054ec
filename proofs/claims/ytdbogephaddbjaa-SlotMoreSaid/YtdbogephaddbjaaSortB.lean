/- Sorting in place: insertion and merging of runs by slices' own functions. -/
import Derived.Test.YtdbogephaddbjaaSortA
import Derived.Tactics
import Derived.Tactics2
import Derived.WalkKit
import Derived.LoopTactic
import Derived.WalkLawsBesides
import Derived.WalkSpells
import Derived.Outline
import Derived.Deep.QuietTactic
import Derived.BigQuiet
import Derived.Deep.DeepCutAuto
import Derived.Deep.LoopGhost
import Derived.Deep.RegionHeld3
import Derived.RegionTactic
import Derived.KernelRfl
import Derived.Lib.Hide
set_option linter.unusedVariables false
set_option linter.unusedSimpArgs false
namespace Go.Proofs.Ytdbogephaddbjaa
open Go.RowKit

/-- A comparison of runs: it answers below 0 just where lt says, keeps J, and turns no old block but those of S. -/
def CmpSeg (lt : Seg → Seg → Prop) (g : Nat) (fst : Array Value) (S : Nat → Prop) (J : World → Prop) : Prop :=
  ∀ (x y : Seg) W, J W → Calls Try.prog g (fst ++ #[.agg #[.int .i64 x.at_, .int .i64 x.v.m, .int .i64 x.v.c], .agg #[.int .i64 y.at_, .int .i64 y.v.m, .int .i64 y.v.c]]) W fun e W' =>
    (∃ z : Int, e = .returned (.int .i64 z) ∧ (z < 0 ↔ lt x y)) ∧ J W' ∧ Mod S W W'

theorem mod_cell {S : Nat → Prop} {W W' : World} (h : Mod S W W') {b o : Nat} (hb : ¬ S b) {v : Value} (hc : W.cell? ⟨b, o, none⟩ = some v) : W'.cell? ⟨b, o, none⟩ = some v :=
  (World.cell?_of_block (w := W) (h.block b (by have := lt_of_cell hc; simpa using this) hb)).trans hc
theorem Mod.wide {S T : Nat → Prop} {W W' : World} (h : Mod S W W') (hs : ∀ k, S k → T k) : Mod T W W' := ⟨h.os, h.tape, h.output, h.size, fun k hk ht => h.block k hk (fun hk' => ht (hs k hk'))⟩

/-- What the comparison of two elements of a row keeps. -/
structure KeepS (w : World) (b off n : Nat) (S : Nat → Prop) (J : World → Prop) (F : Nat → Seg) (W : World) : Prop where
  a : SegArr W b off n F
  j : J W
  m : Mod (fun k => k = b ∨ S k) w W
theorem CmpSeg.at_ {lt : Seg → Seg → Prop} {g : Nat} {fst : Array Value} {S : Nat → Prop} {J : World → Prop} (h : CmpSeg lt g fst S J) {w : World} {b off n : Nat} {F : Nat → Seg} {W : World} (hb : ¬ S b) (hk : KeepS w b off n S J F W) (x y : Seg) :
    Calls Try.prog g (fst ++ #[.agg #[.int .i64 x.at_, .int .i64 x.v.m, .int .i64 x.v.c], .agg #[.int .i64 y.at_, .int .i64 y.v.m, .int .i64 y.v.c]]) W fun e W' =>
      (∃ z : Int, e = .returned (.int .i64 z) ∧ (z < 0 ↔ lt x y)) ∧ KeepS w b off n S J F W' ∧ Mod S W W' :=
  (h x y W hk.j).mono fun e W' ⟨h1, h2, h3⟩ => ⟨h1, ⟨hk.a.mod h3 hb, h2, hk.m.trans (h3.wide fun _ => .inr)⟩, h3⟩

set_option maxRecDepth 10000 in
set_option maxHeartbeats 2000000 in
/-- slices.insertionSortCmpFunc at runs. -/
theorem insertion_seg (lt : Seg → Seg → Prop) (hlt : SWO lt) (g : Nat) (fst : Array Value) (S : Nat → Prop) (J : World → Prop) (hg : Enters Try.prog g) (hcmp : CmpSeg lt g fst S J)
    (b off n cap x y : Nat) (hSb : ¬ S b) (hJ : ∀ W W', Mod (fun k => k = b) W W' → J W → J W') (F0 : Nat → Seg × Nat) (w : World) (hn : n ≤ 1000000) (hxy : x ≤ y) (hy : y ≤ n)
    (ht : ∀ p q, x ≤ p → p < q → q < y → (F0 p).2 < (F0 q).2) (hF : SegArr w b off n fun i => (F0 i).1) (hJw : J w) :
    Calls Try.prog 111 #[.slice (some ⟨b, off, none⟩) n cap, .int .i64 x, .int .i64 y, .func (.func g) fst #[]] w fun e w' =>
      (∃ r, e = .returned r) ∧ (∃ F : Nat → Seg × Nat, SegArr w' b off n (fun i => (F i).1) ∧ Same x y F0 F ∧ Srt (tl lt) x y F) ∧ J w' ∧ Mod (fun k => k = b ∨ S k) w w' := by
  unfold Enters at hg
  have e0 : IntKind.i64.wrap ((x : Int) + 1) = (x : Int) + 1 := IntWalk.i64_in _ (by omega)
  go_enter Try.func111, Try.ntmps111
  go_wp2
  clear e0
  go_loopw [8] (fun i W => ∃ (k : Nat) (F : Nat → Seg × Nat), x + 1 ≤ k ∧ i = .int .i64 k ∧ k ≤ y + 1 ∧ SegArr W b off n (fun i => (F i).1) ∧ Same x (min k y) F0 F ∧ Srt (tl lt) x (min k y) F ∧ J W ∧ Mod (fun k => k = b ∨ S k) w W) (fun i _ => (y - intOf i).toNat)
  case atStart => exact ⟨x + 1, F0, by omega, by go_num, by omega, hF, Same.refl, fun p q h1 h2 h3 => by omega, hJw, Mod.refl⟩
  case round =>
    obtain ⟨k, F, hk, rfl, hk2, hA, hsame, hsrt, hJr, hM⟩ := hrel
    have Hs := Lib.hid (And.intro hsame hsrt)
    have Ht := Lib.hid ht
    clear hsame hsrt ht hF hJw
    by_cases hlt' : k < y
    · have hins : Ins lt F0 x k k F := by
        have := Hs.out
        rw [show min k y = k by omega] at this
        exact Ins.start this.1 this.2 (fun p q h1 h2 h3 => Ht.out p q h1 h2 (by omega)) (by omega)
      have Hm := Lib.hid (And.intro hA (And.intro hins hJr))
      clear hA hins hJr
      obtain ⟨wo, hwo⟩ : ∃ wo : World, wo = wr := ⟨_, rfl⟩
      subst hwo
      go_wp2
      go_loopw [9] (fun j W => ∃ (q : Nat) (F : Nat → Seg × Nat), x ≤ q ∧ q ≤ k ∧ j = .int .i64 q ∧ SegArr W b off n (fun i => (F i).1) ∧ Ins lt F0 x k q F ∧ J W ∧ Mod (fun k => k = b ∨ S k) w W) (fun j _ => (intOf j).toNat)
      case atStart => exact ⟨k, F, by omega, by omega, rfl, Hm.out.1, Hm.out.2.1, Hm.out.2.2, hM⟩
      case round =>
        obtain ⟨q, G, hq, hqk, rfl, hA, hins, hJr, hM2⟩ := hrel
        have Hi := Lib.hid hins
        clear hins hM Hm
        by_cases hxq : x < q
        · obtain ⟨p, rfl⟩ : ∃ p, q = p + 1 := ⟨q - 1, by omega⟩
          have hp := hA (p + 1) (by omega)
          have hq' := hA p (by omega)
          dsimp only at hp hq'
          have HA := Lib.hid hA
          generalize hX : (G (p + 1)).1 = X at *
          generalize hY : (G p).1 = Y at *
          have HX := Lib.hid hX
          have HY := Lib.hid hY
          have e1 : IntKind.i64.wrap (((p + 1 : Nat) : Int) - 1) = (p : Int) := by rw [IntWalk.i64_in _ (by omega)]; omega
          have e1' : IntKind.i64.wrap ((p : Int) + 1 - 1) = (p : Int) := by rw [IntWalk.i64_in _ (by omega)]; omega
          have e1'' : IntKind.i64.wrap (p : Int) = (p : Int) := IntWalk.i64_in _ (by omega)
          have b1 : (0 : Int) ≤ p := by omega
          have b2 : (p : Int) < n := by omega
          have b3 : (p : Int) + 1 < n := by omega
          have b4 : (x : Int) < (p : Int) + 1 := by omega
          have b5 : (0 : Int) ≤ (p : Int) + 1 := by omega
          have b6 : ((p : Int) + 1).toNat = p + 1 := by omega
          have HK : KeepS w b off n S J (fun i => (G i).1) wr.drew := ⟨HA.out.drew, hJ _ _ (Mod.drew Mod.refl) hJr, hM2.drew⟩
          obtain ⟨p1, p2, p3, p4, p5, p6⟩ := hp
          obtain ⟨q1, q2, q3, q4, q5, q6⟩ := hq'
          clear hX hY hA
          go_wp2
          go_region_held3 (fun W => W.cell? ⟨b, off + (p + 1) * 3, none⟩ = some (.int .i64 X.at_) ∧ W.cell? ⟨b, off + (p + 1) * 3 + 1, none⟩ = some (.int .i64 X.v.m) ∧ W.cell? ⟨b, off + (p + 1) * 3 + 2, none⟩ = some (.int .i64 X.v.c) ∧ W.cell? ⟨b, off + p * 3, none⟩ = some (.int .i64 Y.at_) ∧ W.cell? ⟨b, off + p * 3 + 1, none⟩ = some (.int .i64 Y.v.m) ∧ W.cell? ⟨b, off + p * 3 + 2, none⟩ = some (.int .i64 Y.v.c) ∧ KeepS w b off n S J (fun i => (G i).1) W)
            ((refine ⟨?_, ?_, ?_, ?_, ?_, ?_, ?_⟩ <;> (first | assumption | (exact mod_cell hM1 hSb (by assumption)))))
            (first | ((refine (hcmp.at_ hSb ‹KeepS _ _ _ _ _ _ _ _› _ _).mono ?_); rintro e w1 ⟨⟨z, rfl, hz⟩, hK1, hM1⟩; have Hz := Lib.hid hz; clear hz))
          by_cases hl : lt X Y
          · have hz1 : z < 0 := Hz.out.2 hl
            have HL := Lib.hid hl
            clear hl p1 p2 p3 p4 p5 p6 q1 q2 q3 q4 q5 q6 HK
            have hp := hK1.a (p + 1) (by omega)
            have hq' := hK1.a p (by omega)
            try dsimp only at hp hq'
            rw [HX.out] at hp
            rw [HY.out] at hq'
            obtain ⟨p1, p2, p3, p4, p5, p6⟩ := hp
            obtain ⟨q1, q2, q3, q4, q5, q6⟩ := hq'
            have d1 : ¬ p + 1 = p := by omega
            have d2 : ¬ p = p + 1 := by omega
            have d3 : ¬ off + (p + 1) * 3 = off + p * 3 + 1 := by omega
            have d4 : ¬ off + (p + 1) * 3 = off + p * 3 + 2 := by omega
            have d5 : ¬ off + p * 3 = off + (p + 1) * 3 + 1 := by omega
            have d6 : ¬ off + p * 3 = off + (p + 1) * 3 + 2 := by omega
            have d7 : ¬ off + (p + 1) * 3 + 1 = off + p * 3 := by omega
            have d8 : ¬ off + (p + 1) * 3 + 2 = off + p * 3 := by omega
            have d9 : ¬ off + p * 3 + 1 = off + (p + 1) * 3 := by omega
            have d10 : ¬ off + p * 3 + 2 = off + (p + 1) * 3 := by omega
            have d11 : ¬ off + (p + 1) * 3 + 1 = off + p * 3 + 2 := by omega
            have d12 : ¬ off + (p + 1) * 3 + 2 = off + p * 3 + 1 := by omega
            have d13 : ¬ off + (p + 1) * 3 = off + p * 3 := by omega
            have d14 : ¬ off + p * 3 = off + (p + 1) * 3 := by omega
            go_wp2
            go_region
            clear d1 d2 d3 d4 d5 d6 d7 d8 d9 d10 d11 d12 d13 d14 p1 p2 p3 p4 p5 p6 q1 q2 q3 q4 q5 q6
            go_wp2
            go_roundw
            case rel =>
              refine ⟨p, swp G (p + 1) p, by omega, by omega, rfl, ?_, ?_, ?_, ?_⟩
              · refine ((hK1.a.swap (p + 1) p X Y HX.out HY.out).drew).congr fun i _ => ?_
                unfold swp
                split
                · rfl
                · split <;> rfl
              · exact Hi.out.step (by omega) hqk (by rw [HX.out, HY.out]; exact HL.out)
              · refine hJ _ _ ?_ hK1.j
                refine Mod.drew ?_
                repeat apply Mod.setB
                exact Mod.refl
              · refine hK1.m.trans (Mod.wide (S := fun k => k = b) ?_ (fun _ h => .inl h))
                refine Mod.drew ?_
                repeat apply Mod.setB
                exact Mod.refl
            case measure => first | (simp [intOf]; done) | (simp [intOf]; omega)
          · have hz1 : 0 ≤ z := by have := Hz.out; exact Int.not_lt.1 (fun h => hl (this.1 h))
            have HL := Lib.hid hl
            clear hl p1 p2 p3 p4 p5 p6 q1 q2 q3 q4 q5 q6 HK
            go_wp2
            go_roundw
            case rel =>
              refine ⟨k + 1, G, by omega, by go_num, by omega, hK1.a, ?_, ?_, hK1.j, hK1.m⟩
              · rw [show min (k + 1) y = k + 1 by omega]; exact Hi.out.same
              · rw [show min (k + 1) y = k + 1 by omega]
                exact Hi.out.stop hlt (by omega) hqk (.inr ⟨p, rfl, by rw [HX.out, HY.out]; exact HL.out⟩)
            case measure => first | (simp [intOf]; done) | (simp [intOf]; omega)
        · obtain rfl : x = q := by omega
          have b4 : ¬ ((x : Int) < x) := by omega
          have hd : decide ((x : Int) < x) = false := by simp
          go_wp2
          go_quiet (fail)
          go_wp2
          go_roundw
          case rel =>
            refine ⟨k + 1, G, by omega, by go_num, by omega, hA, ?_, ?_, hJ _ _ (Mod.drewN Mod.refl) hJr, hM2.drewN⟩
            · rw [show min (k + 1) y = k + 1 by omega]; exact Hi.out.same
            · rw [show min (k + 1) y = k + 1 by omega]
              exact Hi.out.stop hlt (by omega) hqk (.inl rfl)
          case measure => first | (simp [intOf]; done) | (simp [intOf]; omega)
    · go_wp2
      go_end0
      have := Hs.out
      rw [show min k y = y by omega] at this
      exact ⟨⟨_, rfl⟩, ⟨F, hA, this.1, this.2⟩, hJr, hM⟩

end Go.Proofs.Ytdbogephaddbjaa
