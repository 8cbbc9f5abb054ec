/- slices.symMergeCmpFunc at runs: a merge in place that is stable. -/
import Derived.Test.YtdbogephaddbjaaSortB
import Derived.Tactics
import Derived.Tactics2
import Derived.WalkKit
import Derived.LoopTactic
import Derived.WalkLawsBesides
import Derived.WalkSpells
import Derived.Outline
import Derived.Deep.QuietTactic
import Derived.BigQuiet
import Derived.Deep.DeepCutAuto
import Derived.Deep.LoopGhost
import Derived.Deep.RegionHeld3
import Derived.RegionTactic
import Derived.KernelRfl
import Derived.Lib.Hide
set_option linter.unusedVariables false
set_option linter.unusedSimpArgs false
namespace Go.Proofs.Ytdbogephaddbjaa
open Go.RowKit

section
variable {lt : Seg → Seg → Prop} {g : Nat} {fst : Array Value} {S : Nat → Prop} {J : World → Prop}

/-- What symMerge leaves. -/
def MergePost (lt : Seg → Seg → Prop) (S : Nat → Prop) (J : World → Prop) (b off n x y : Nat) (F0 : Nat → Seg × Nat) (w : World) (e : Ending) (w' : World) : Prop :=
  (∃ r, e = .returned r) ∧ (∃ F : Nat → Seg × Nat, SegArr w' b off n (fun i => (F i).1) ∧ Same x y F0 F ∧ Srt (tl lt) x y F) ∧ J w' ∧ Mod (fun k => k = b ∨ S k) w w'

set_option maxRecDepth 100000 in
set_option maxHeartbeats 4000000 in
theorem symMerge_left (hlt : SWO lt) (hg : Enters Try.prog g) (hcmp : CmpSeg lt g fst S J)
    (b off n cap x y : Nat) (hSb : ¬ S b) (hJ : ∀ W W', Mod (fun k => k = b) W W' → J W → J W') (F0 : Nat → Seg × Nat) (w : World) (hn : n ≤ 1000000) (hxy : x + 1 < y) (hy : y ≤ n)
    (hmp : MP lt x (x + 1) y F0) (hF : SegArr w b off n fun i => (F0 i).1) (hJw : J w) :
    Calls Try.prog 112 #[.slice (some ⟨b, off, none⟩) n cap, .int .i64 x, .int .i64 (x + 1), .int .i64 y, .func (.func g) fst #[]] w (MergePost lt S J b off n x y F0 w) := by
  unfold Enters at hg
  have e0 : IntKind.i64.wrap ((x : Int) + 1 - x) = 1 := by rw [IntWalk.i64_in _ (by omega)]; omega
  have HH := Lib.hid (And.intro hmp (And.intro hF hJw))
  clear hmp hF hJw
  go_enter Try.func112, Try.ntmps112
  go_wp2
  clear e0
  go_loopw [10, 11, 12] (fun i j _ W => ∃ p q : Nat, x + 1 ≤ p ∧ p ≤ q ∧ q ≤ y ∧ i = .int .i64 p ∧ j = .int .i64 q ∧ (∀ z, x + 1 ≤ z → z < p → lt (F0 z).1 (F0 x).1) ∧ (∀ z, q ≤ z → z < y → ¬ lt (F0 z).1 (F0 x).1) ∧ KeepS w b off n S J (fun i => (F0 i).1) W) (fun i j _ _ => (intOf j - intOf i).toNat)
  case atStart => exact ⟨x + 1, y, by omega, by omega, by omega, by go_num, rfl, fun z h1 h2 => by omega, fun z h1 h2 => by omega, HH.out.2.1, HH.out.2.2, Mod.refl⟩
  case round =>
    obtain ⟨p, q, hp, hpq, hq, rfl, rfl, hlo, hhi, hK⟩ := hrel
    have Hlo := Lib.hid hlo
    have Hhi := Lib.hid hhi
    clear hlo hhi
    have b3 : (0 : Int) ≤ x := by omega
    have b4 : (x : Int) < n := by omega
    by_cases hlt' : p < q
    · obtain ⟨h, hh⟩ : ∃ h, h = (p + q) / 2 := ⟨_, rfl⟩
      have h1 : p ≤ h := by omega
      have h2 : h < q := by omega
      have e1 : IntKind.i64.wrap ((p : Int) + q) = (p : Int) + q := IntWalk.i64_in _ (by omega)
      have e2 : ((p : Int) + q) / 2 = h := by omega
      have b1 : (0 : Int) ≤ h := by omega
      have b2 : (h : Int) < n := by omega
      have Hh := Lib.hid hh
      clear hh
      have hp' := hK.a h (by omega)
      have hq' := hK.a x (by omega)
      try dsimp only at hp' hq'
      obtain ⟨X, hX⟩ : ∃ X, (F0 h).1 = X := ⟨_, rfl⟩
      obtain ⟨Y, hY⟩ : ∃ Y, (F0 x).1 = Y := ⟨_, rfl⟩
      rw [hX] at hp'
      rw [hY] at hq'
      have HX := Lib.hid hX
      have HY := Lib.hid hY
      clear hX hY
      obtain ⟨p1, p2, p3, p4, p5, p6⟩ := hp'
      obtain ⟨q1, q2, q3, q4, q5, q6⟩ := hq'
      have HK : KeepS w b off n S J (fun i => (F0 i).1) wr.drew := ⟨hK.a.drew, hJ _ _ (Mod.drew Mod.refl) hK.j, hK.m.drew⟩
      clear hK
      go_wp2
      go_region_held3 (fun W => W.cell? ⟨b, off + h * 3, none⟩ = some (.int .i64 X.at_) ∧ W.cell? ⟨b, off + h * 3 + 1, none⟩ = some (.int .i64 X.v.m) ∧ W.cell? ⟨b, off + h * 3 + 2, none⟩ = some (.int .i64 X.v.c) ∧ W.cell? ⟨b, off + x * 3, none⟩ = some (.int .i64 Y.at_) ∧ W.cell? ⟨b, off + x * 3 + 1, none⟩ = some (.int .i64 Y.v.m) ∧ W.cell? ⟨b, off + x * 3 + 2, none⟩ = some (.int .i64 Y.v.c) ∧ KeepS w b off n S J (fun i => (F0 i).1) W)
        ((refine ⟨?_, ?_, ?_, ?_, ?_, ?_, ?_⟩ <;> (first | assumption | (exact mod_cell hM1 hSb (by assumption)))))
        (first | ((refine (hcmp.at_ hSb ‹KeepS _ _ _ _ _ _ _ _› _ _).mono ?_); rintro e w1 ⟨⟨z, rfl, hz⟩, hK1, hM1⟩; have Hz := Lib.hid hz; clear hz))
      clear p1 p2 p3 p4 p5 p6 q1 q2 q3 q4 q5 q6 HK hM1
      by_cases hl : lt X Y
      · have hz1 : z < 0 := Hz.out.2 hl
        have HL := Lib.hid hl
        clear hl e1 e2
        go_wp2
        go_roundw
        case rel =>
          refine ⟨h + 1, q, by omega, by omega, hq, by go_num, rfl, fun u u1 u2 => ?_, Hhi.out, hK1⟩
          by_cases c : u = h
          · rw [c, HX.out, HY.out]; exact HL.out
          · exact tl_lt hlt (HH.out.1.r u h u1 (by omega) (by omega)) (by rw [HX.out, HY.out]; exact HL.out)
        case measure => first | (simp [intOf]; done) | (simp [intOf]; omega)
      · have hz1 : 0 ≤ z := by have := Hz.out; exact Int.not_lt.1 (fun h => hl (this.1 h))
        have HL := Lib.hid hl
        clear hl e1 e2
        go_wp2
        go_roundw
        case rel =>
          refine ⟨p, h, hp, h1, by omega, rfl, rfl, Hlo.out, fun u u1 u2 => ?_, hK1⟩
          by_cases c : u = h
          · rw [c, HX.out, HY.out]; exact HL.out
          · intro hc
            refine HL.out ?_
            rw [← HX.out, ← HY.out]
            exact tl_lt hlt (HH.out.1.r h u (by omega) (by omega) u2) hc
        case measure => first | (simp [intOf]; done) | (simp [intOf]; omega)
    · obtain rfl : p = q := by omega
      obtain ⟨r, rfl⟩ : ∃ r, p = r + 1 := ⟨p - 1, by omega⟩
      have Hmv := Lib.hid (HH.out.1.one_left (r + 1) hp hq Hlo.out Hhi.out)
      have HKs := Lib.hid hK
      have e1 : IntKind.i64.wrap (((r + 1 : Nat) : Int) - 1) = (r : Int) := by rw [IntWalk.i64_in _ (by omega)]; omega
      have e1' : IntKind.i64.wrap ((r : Int) + 1 - 1) = (r : Int) := by rw [IntWalk.i64_in _ (by omega)]; omega
      have e1'' : IntKind.i64.wrap (r : Int) = (r : Int) := IntWalk.i64_in _ (by omega)
      clear hK
      obtain ⟨wo, hwo⟩ : ∃ wo : World, wo = wr := ⟨_, rfl⟩
      subst hwo
      go_wp2
      go_loopw [13] (fun k W => ∃ k' : Nat, x ≤ k' ∧ k' ≤ r ∧ k = .int .i64 k' ∧ KeepS w b off n S J (fun i => (rotR F0 x (x + 1) (k' + 1) i).1) W) (fun k _ => (r - intOf k).toNat)
      case atStart => exact ⟨x, Nat.le_refl _, by omega, rfl, by rw [rotR_id1 rfl (by omega)]; exact HKs.out⟩
      case round =>
        obtain ⟨k, hk1, hk2, rfl, hK⟩ := hrel
        by_cases hkr : k < r
        · have e2 : IntKind.i64.wrap ((k : Int) + 1) = (k : Int) + 1 := IntWalk.i64_in _ (by omega)
          have b1 : (0 : Int) ≤ k := by omega
          have b2 : (k : Int) < n := by omega
          have b5 : (k : Int) + 1 < n := by omega
          have b6 : ((k : Int) + 1).toNat = k + 1 := by omega
          have b7 : (0 : Int) ≤ (k : Int) + 1 := by omega
          have b8 : (k : Int) < r := by omega
          obtain ⟨G, hG⟩ : ∃ G, G = rotR F0 x (x + 1) (k + 1) := ⟨_, rfl⟩
          rw [← hG] at hK
          have HG := Lib.hid hG
          clear hG
          have hp' := hK.a k (by omega)
          have hq' := hK.a (k + 1) (by omega)
          try dsimp only at hp' hq'
          obtain ⟨X, hX⟩ : ∃ X, (G k).1 = X := ⟨_, rfl⟩
          obtain ⟨Y, hY⟩ : ∃ Y, (G (k + 1)).1 = Y := ⟨_, rfl⟩
          rw [hX] at hp'
          rw [hY] at hq'
          have HX := Lib.hid hX
          have HY := Lib.hid hY
          clear hX hY
          obtain ⟨p1, p2, p3, p4, p5, p6⟩ := hp'
          obtain ⟨q1, q2, q3, q4, q5, q6⟩ := hq'
          have HK := Lib.hid hK
          clear hK
          have d1 : ¬ k = k + 1 := by omega
          have d2 : ¬ k + 1 = k := by omega
          have d3 : ¬ off + k * 3 = off + (k + 1) * 3 := by omega
          have d4 : ¬ off + k * 3 = off + (k + 1) * 3 + 1 := by omega
          have d5 : ¬ off + k * 3 = off + (k + 1) * 3 + 2 := by omega
          have d6 : ¬ off + k * 3 + 1 = off + (k + 1) * 3 := by omega
          have d7 : ¬ off + k * 3 + 2 = off + (k + 1) * 3 := by omega
          have d8 : ¬ off + k * 3 + 1 = off + (k + 1) * 3 + 2 := by omega
          have d9 : ¬ off + (k + 1) * 3 = off + k * 3 := by omega
          have d10 : ¬ off + (k + 1) * 3 = off + k * 3 + 1 := by omega
          have d11 : ¬ off + (k + 1) * 3 = off + k * 3 + 2 := by omega
          have d12 : ¬ off + (k + 1) * 3 + 1 = off + k * 3 := by omega
          have d13 : ¬ off + (k + 1) * 3 + 2 = off + k * 3 := by omega
          have d14 : ¬ off + (k + 1) * 3 + 1 = off + k * 3 + 2 := by omega
          go_wp2
          go_region
          clear d1 d2 d3 d4 d5 d6 d7 d8 d9 d10 d11 d12 d13 d14 p1 p2 p3 p4 p5 p6 q1 q2 q3 q4 q5 q6
          go_wp2
          clear e2 b1 b2 b5 b6 b7
          go_roundw
          case rel =>
            refine ⟨k + 1, by omega, by omega, by go_num, ?_⟩
            refine ⟨?_, ?_, ?_⟩
            · refine ((HK.out.a.swap k (k + 1) X Y HX.out HY.out).drew).congr fun i _ => ?_
              rw [← rot_step_up F0 x k i (by omega), ← HG.out]
              unfold swp
              split
              · rfl
              · split <;> rfl
            · refine hJ _ _ ?_ HK.out.j
              refine Mod.drew ?_
              repeat apply Mod.setB
              exact Mod.refl
            · refine HK.out.m.trans (Mod.wide (S := fun k => k = b) ?_ (fun _ h => .inl h))
              refine Mod.drew ?_
              repeat apply Mod.setB
              exact Mod.refl
          case measure => first | (simp [intOf]; done) | (simp [intOf]; omega)
        · obtain rfl : k = r := by omega
          go_wp2
          go_end0
          exact ⟨⟨_, rfl⟩, ⟨_, hK.a, Hmv.out.1, Hmv.out.2⟩, hK.j, hK.m⟩

set_option maxRecDepth 100000 in
set_option maxHeartbeats 4000000 in
theorem symMerge_right (hlt : SWO lt) (hg : Enters Try.prog g) (hcmp : CmpSeg lt g fst S J)
    (b off n cap x m y : Nat) (hSb : ¬ S b) (hJ : ∀ W W', Mod (fun k => k = b) W W' → J W → J W') (F0 : Nat → Seg × Nat) (w : World) (hn : n ≤ 1000000) (hxm : x + 1 < m) (hy : m + 1 ≤ n)
    (hmp : MP lt x m (m + 1) F0) (hF : SegArr w b off n fun i => (F0 i).1) (hJw : J w) :
    Calls Try.prog 112 #[.slice (some ⟨b, off, none⟩) n cap, .int .i64 x, .int .i64 m, .int .i64 (m + 1), .func (.func g) fst #[]] w (MergePost lt S J b off n x (m + 1) F0 w) := by
  unfold Enters at hg
  have e0 : IntKind.i64.wrap ((m : Int) + 1 - m) = 1 := by rw [IntWalk.i64_in _ (by omega)]; omega
  have e00 : IntKind.i64.wrap ((m : Int) - x) = (m : Int) - x := IntWalk.i64_in _ (by omega)
  have e01 : ((m : Int) - x == 1) = false := by simp; omega
  have HH := Lib.hid (And.intro hmp (And.intro hF hJw))
  clear hmp hF hJw
  go_enter Try.func112, Try.ntmps112
  go_wp2
  clear e0 e00 e01
  go_loopw [14, 15, 16] (fun i j _ W => ∃ p q : Nat, x ≤ p ∧ p ≤ q ∧ q ≤ m ∧ i = .int .i64 p ∧ j = .int .i64 q ∧ (∀ z, x ≤ z → z < p → ¬ lt (F0 m).1 (F0 z).1) ∧ (∀ z, q ≤ z → z < m → lt (F0 m).1 (F0 z).1) ∧ KeepS w b off n S J (fun i => (F0 i).1) W) (fun i j _ _ => (intOf j - intOf i).toNat)
  case atStart => exact ⟨x, m, by omega, by omega, by omega, rfl, rfl, fun z h1 h2 => by omega, fun z h1 h2 => by omega, HH.out.2.1, HH.out.2.2, Mod.refl⟩
  case round =>
    obtain ⟨p, q, hp, hpq, hq, rfl, rfl, hlo, hhi, hK⟩ := hrel
    have Hlo := Lib.hid hlo
    have Hhi := Lib.hid hhi
    clear hlo hhi
    have b3 : (0 : Int) ≤ m := by omega
    have b4 : (m : Int) < n := by omega
    by_cases hlt' : p < q
    · obtain ⟨h, hh⟩ : ∃ h, h = (p + q) / 2 := ⟨_, rfl⟩
      have h1 : p ≤ h := by omega
      have h2 : h < q := by omega
      have e1 : IntKind.i64.wrap ((p : Int) + q) = (p : Int) + q := IntWalk.i64_in _ (by omega)
      have e2 : ((p : Int) + q) / 2 = h := by omega
      have b1 : (0 : Int) ≤ h := by omega
      have b2 : (h : Int) < n := by omega
      have Hh := Lib.hid hh
      clear hh
      have hp' := hK.a m (by omega)
      have hq' := hK.a h (by omega)
      try dsimp only at hp' hq'
      obtain ⟨X, hX⟩ : ∃ X, (F0 m).1 = X := ⟨_, rfl⟩
      obtain ⟨Y, hY⟩ : ∃ Y, (F0 h).1 = Y := ⟨_, rfl⟩
      rw [hX] at hp'
      rw [hY] at hq'
      have HX := Lib.hid hX
      have HY := Lib.hid hY
      clear hX hY
      obtain ⟨p1, p2, p3, p4, p5, p6⟩ := hp'
      obtain ⟨q1, q2, q3, q4, q5, q6⟩ := hq'
      have HK : KeepS w b off n S J (fun i => (F0 i).1) wr.drew := ⟨hK.a.drew, hJ _ _ (Mod.drew Mod.refl) hK.j, hK.m.drew⟩
      clear hK
      go_wp2
      go_region_held3 (fun W => W.cell? ⟨b, off + m * 3, none⟩ = some (.int .i64 X.at_) ∧ W.cell? ⟨b, off + m * 3 + 1, none⟩ = some (.int .i64 X.v.m) ∧ W.cell? ⟨b, off + m * 3 + 2, none⟩ = some (.int .i64 X.v.c) ∧ W.cell? ⟨b, off + h * 3, none⟩ = some (.int .i64 Y.at_) ∧ W.cell? ⟨b, off + h * 3 + 1, none⟩ = some (.int .i64 Y.v.m) ∧ W.cell? ⟨b, off + h * 3 + 2, none⟩ = some (.int .i64 Y.v.c) ∧ KeepS w b off n S J (fun i => (F0 i).1) W)
        ((refine ⟨?_, ?_, ?_, ?_, ?_, ?_, ?_⟩ <;> (first | assumption | (exact mod_cell hM1 hSb (by assumption)))))
        (first | ((refine (hcmp.at_ hSb ‹KeepS _ _ _ _ _ _ _ _› _ _).mono ?_); rintro e w1 ⟨⟨z, rfl, hz⟩, hK1, hM1⟩; have Hz := Lib.hid hz; clear hz))
      clear p1 p2 p3 p4 p5 p6 q1 q2 q3 q4 q5 q6 HK hM1
      by_cases hl : lt X Y
      · have hz1 : z < 0 := Hz.out.2 hl
        have hz2 : (!decide (z < 0)) = false := by simp [hz1]
        have HL := Lib.hid hl
        clear hl e1 e2
        rw [hz2]
        go_wp2
        go_roundw
        case rel =>
          refine ⟨p, h, hp, h1, by omega, rfl, rfl, Hlo.out, fun u u1 u2 => ?_, hK1⟩
          by_cases c : u = h
          · rw [c, HX.out, HY.out]; exact HL.out
          · exact tl_lt2 hlt (by rw [HX.out, HY.out]; exact HL.out : lt (F0 m).1 (F0 h).1) (HH.out.1.l h u (by omega) (by omega) (by omega))
        case measure => first | (simp [intOf]; done) | (simp [intOf]; omega)
      · have hz1 : 0 ≤ z := by have := Hz.out; exact Int.not_lt.1 (fun h => hl (this.1 h))
        have hz2 : (!decide (z < 0)) = true := by simp; exact hz1
        have HL := Lib.hid hl
        clear hl e1 e2
        rw [hz2]
        go_wp2
        go_roundw
        case rel =>
          refine ⟨h + 1, q, by omega, by omega, hq, by go_num, rfl, fun u u1 u2 => ?_, Hhi.out, hK1⟩
          by_cases c : u = h
          · rw [c, HX.out, HY.out]; exact HL.out
          · intro hc
            refine HL.out ?_
            rw [← HX.out, ← HY.out]
            exact tl_lt2 hlt hc (HH.out.1.l u h u1 (by omega) (by omega))
        case measure => first | (simp [intOf]; done) | (simp [intOf]; omega)
    · obtain rfl : p = q := by omega
      have Hmv := Lib.hid (HH.out.1.one_right p hp hq Hlo.out Hhi.out)
      have HKs := Lib.hid hK
      clear hK
      obtain ⟨wo, hwo⟩ : ∃ wo : World, wo = wr := ⟨_, rfl⟩
      subst hwo
      go_wp2
      go_loopw [17] (fun k W => ∃ k' : Nat, p ≤ k' ∧ k' ≤ m ∧ k = .int .i64 k' ∧ KeepS w b off n S J (fun i => (rotR F0 k' m (m + 1) i).1) W) (fun k _ => (intOf k).toNat)
      case atStart => exact ⟨m, hq, Nat.le_refl _, rfl, by rw [rotR_id2 (by omega) rfl]; exact HKs.out⟩
      case round =>
        obtain ⟨k0, hk1, hk2, rfl, hK⟩ := hrel
        by_cases hkr : p < k0
        · obtain ⟨k, rfl⟩ : ∃ k, k0 = k + 1 := ⟨k0 - 1, by omega⟩
          have e2 : IntKind.i64.wrap (((k + 1 : Nat) : Int) - 1) = (k : Int) := by rw [IntWalk.i64_in _ (by omega)]; omega
          have e2' : IntKind.i64.wrap ((k : Int) + 1 - 1) = (k : Int) := by rw [IntWalk.i64_in _ (by omega)]; omega
          have e2'' : IntKind.i64.wrap (k : Int) = (k : Int) := IntWalk.i64_in _ (by omega)
          have b1 : (0 : Int) ≤ k := by omega
          have b2 : (k : Int) < n := by omega
          have b5 : (k : Int) + 1 < n := by omega
          have b6 : ((k : Int) + 1).toNat = k + 1 := by omega
          have b7 : (0 : Int) ≤ (k : Int) + 1 := by omega
          have b8 : (p : Int) < (k : Int) + 1 := by omega
          obtain ⟨G, hG⟩ : ∃ G, G = rotR F0 (k + 1) m (m + 1) := ⟨_, rfl⟩
          rw [← hG] at hK
          have HG := Lib.hid hG
          clear hG
          have hp' := hK.a (k + 1) (by omega)
          have hq' := hK.a k (by omega)
          try dsimp only at hp' hq'
          obtain ⟨X, hX⟩ : ∃ X, (G (k + 1)).1 = X := ⟨_, rfl⟩
          obtain ⟨Y, hY⟩ : ∃ Y, (G k).1 = Y := ⟨_, rfl⟩
          rw [hX] at hp'
          rw [hY] at hq'
          have HX := Lib.hid hX
          have HY := Lib.hid hY
          clear hX hY
          obtain ⟨p1, p2, p3, p4, p5, p6⟩ := hp'
          obtain ⟨q1, q2, q3, q4, q5, q6⟩ := hq'
          have HK := Lib.hid hK
          clear hK
          have d1 : ¬ k + 1 = k := by omega
          have d2 : ¬ k = k + 1 := by omega
          have d3 : ¬ off + (k + 1) * 3 = off + k * 3 := by omega
          have d4 : ¬ off + (k + 1) * 3 = off + k * 3 + 1 := by omega
          have d5 : ¬ off + (k + 1) * 3 = off + k * 3 + 2 := by omega
          have d6 : ¬ off + (k + 1) * 3 + 1 = off + k * 3 := by omega
          have d7 : ¬ off + (k + 1) * 3 + 2 = off + k * 3 := by omega
          have d8 : ¬ off + (k + 1) * 3 + 1 = off + k * 3 + 2 := by omega
          have d9 : ¬ off + k * 3 = off + (k + 1) * 3 := by omega
          have d10 : ¬ off + k * 3 = off + (k + 1) * 3 + 1 := by omega
          have d11 : ¬ off + k * 3 = off + (k + 1) * 3 + 2 := by omega
          have d12 : ¬ off + k * 3 + 1 = off + (k + 1) * 3 := by omega
          have d13 : ¬ off + k * 3 + 2 = off + (k + 1) * 3 := by omega
          have d14 : ¬ off + k * 3 + 1 = off + (k + 1) * 3 + 2 := by omega
          go_wp2
          go_region
          clear d1 d2 d3 d4 d5 d6 d7 d8 d9 d10 d11 d12 d13 d14 p1 p2 p3 p4 p5 p6 q1 q2 q3 q4 q5 q6
          go_wp2
          clear b1 b2 b5 b6 b7
          go_roundw
          case rel =>
            refine ⟨k, by omega, by omega, rfl, ?_⟩
            refine ⟨?_, ?_, ?_⟩
            · refine ((HK.out.a.swap (k + 1) k X Y HX.out HY.out).drew).congr fun i _ => ?_
              rw [← rot_step_down F0 m k i (by omega), ← HG.out]
              unfold swp
              split
              · rfl
              · split <;> rfl
            · refine hJ _ _ ?_ HK.out.j
              refine Mod.drew ?_
              repeat apply Mod.setB
              exact Mod.refl
            · refine HK.out.m.trans (Mod.wide (S := fun k => k = b) ?_ (fun _ h => .inl h))
              refine Mod.drew ?_
              repeat apply Mod.setB
              exact Mod.refl
          case measure => first | (simp [intOf]; done) | (simp [intOf]; omega)
        · obtain rfl : p = k0 := by omega
          go_wp2
          go_end0
          exact ⟨⟨_, rfl⟩, ⟨_, hK.a, Hmv.out.1, Hmv.out.2⟩, hK.j, hK.m⟩

end
end Go.Proofs.Ytdbogephaddbjaa
