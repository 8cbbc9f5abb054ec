/- slices.symMergeCmpFunc at runs: its general branch (the middle is behind the half). -/
import Derived.Test.YtdbogephaddbjaaSortC
import Derived.Deep.CutBlock
import Derived.Tactics
import Derived.Tactics2
import Derived.WalkKit
import Derived.LoopTactic
import Derived.WalkLawsBesides
import Derived.WalkSpells
import Derived.Outline
import Derived.Deep.QuietTactic
import Derived.BigQuiet
import Derived.Deep.DeepCutAuto
import Derived.Deep.LoopGhost
import Derived.Deep.RegionHeld3
import Derived.RegionTactic
import Derived.KernelRfl
import Derived.Lib.Hide
set_option linter.unusedVariables false
set_option linter.unusedSimpArgs false
namespace Go.Proofs.Ytdbogephaddbjaa
open Go.RowKit

section
variable {lt : Seg → Seg → Prop} {g : Nat} {fst : Array Value} {S : Nat → Prop} {J : World → Prop}

set_option maxRecDepth 100000 in
set_option maxHeartbeats 4000000 in
theorem symMerge_main_hi (hlt : SWO lt) (hg : Enters Try.prog g) (hcmp : CmpSeg lt g fst S J)
    (b off n cap x m y : Nat) (hSb : ¬ S b) (hJ : ∀ W W', Mod (fun k => k = b) W W' → J W → J W') (F0 : Nat → Seg × Nat) (w : World) (hn : n ≤ 1000000) (hxm : x + 1 < m) (hmy : m + 1 < y) (hy : y ≤ n)
    (hmp : MP lt x m y F0) (hF : SegArr w b off n fun i => (F0 i).1) (hJw : J w) 
    (ih : ∀ (x' m' y' : Nat) (F0 : Nat → Seg × Nat) (w : World), y' - x' < y - x → x' < m' → m' < y' → y' ≤ n → MP lt x' m' y' F0 → (SegArr w b off n fun i => (F0 i).1) → J w →
      Calls Try.prog 112 #[.slice (some ⟨b, off, none⟩) n cap, .int .i64 x', .int .i64 m', .int .i64 y', .func (.func g) fst #[]] w (MergePost lt S J b off n x' y' F0 w))
    (mid : Nat) (hmid : mid = (x + y) / 2) (hside : mid < m) :
    Calls Try.prog 112 #[.slice (some ⟨b, off, none⟩) n cap, .int .i64 x, .int .i64 m, .int .i64 y, .func (.func g) fst #[]] w (MergePost lt S J b off n x y F0 w) := by
  unfold Enters at hg
  obtain ⟨N, hN⟩ : ∃ N, N = mid + m := ⟨_, rfl⟩
  obtain ⟨s0, hs0⟩ : ∃ s0, s0 = N - y := ⟨_, rfl⟩
  obtain ⟨N1, hN1⟩ : ∃ N1, N1 = N - 1 := ⟨_, rfl⟩
  have e1 : IntKind.i64.wrap ((m : Int) - x) = (m : Int) - x := IntWalk.i64_in _ (by omega)
  have e2 : ((m : Int) - x == 1) = false := by simp; omega
  have e3 : IntKind.i64.wrap ((y : Int) - m) = (y : Int) - m := IntWalk.i64_in _ (by omega)
  have e4 : ((y : Int) - m == 1) = false := by simp; omega
  have e5 : IntKind.i64.wrap ((x : Int) + y) = (x : Int) + y := IntWalk.i64_in _ (by omega)
  have e6 : ((x : Int) + y) / 2 = mid := by omega
  have e7 : IntKind.i64.wrap ((mid : Int) + m) = (N : Int) := by rw [IntWalk.i64_in _ (by omega)]; omega
  have e8 : IntKind.i64.wrap ((N : Int) - 1) = (N1 : Int) := by rw [IntWalk.i64_in _ (by omega)]; omega
  have e9 : IntKind.i64.wrap ((N : Int) - y) = (s0 : Int) := by rw [IntWalk.i64_in _ (by omega)]; omega
  have e10 : (mid : Int) < m := by omega
  have hb0 : x ≤ s0 ∧ s0 ≤ mid ∧ N = mid + m ∧ N1 + 1 = N ∧ N ≤ 2000000 := by omega
  have HH := Lib.hid (And.intro hmp (And.intro hF hJw))
  have Hmid := Lib.hid (And.intro hmid (And.intro hN (And.intro hs0 hN1)))
  have Hside := Lib.hid hside
  clear hmp hF hJw hmid hN hs0 hN1 hside
  go_enter Try.func112, Try.ntmps112
  go_wp2
  clear e1 e2 e3 e4 e5 e6 e7 e8 e10 e9
  go_loopw [20, 21, 23] (fun i j _ W => ∃ s r : Nat, s0 ≤ s ∧ s ≤ r ∧ r ≤ mid ∧ i = .int .i64 s ∧ j = .int .i64 r ∧ (s = s0 ∨ ¬ lt (F0 (N - s)).1 (F0 (s - 1)).1) ∧ (r = mid ∨ lt (F0 (N1 - r)).1 (F0 r).1) ∧ KeepS w b off n S J (fun i => (F0 i).1) W) (fun i j _ _ => (intOf j - intOf i).toNat)
  case atStart => exact ⟨s0, mid, Nat.le_refl _, hb0.2.1, Nat.le_refl _, by have := Hmid.out; have := Hside.out; exact congrArg (Value.int .i64) (by omega), rfl, .inl rfl, .inl rfl, HH.out.2.1, HH.out.2.2, Mod.refl⟩
  case round =>
    obtain ⟨s, r, hs, hsr, hr, rfl, rfl, hlo, hhi, hK⟩ := hrel
    obtain ⟨hmid, hN, hs0, hN1⟩ := Hmid.out
    have hside := Hside.out
    have Hlo := Lib.hid hlo
    have Hhi := Lib.hid hhi
    clear hlo hhi
    by_cases hlt' : s < r
    · obtain ⟨c, hc⟩ : ∃ c, c = (s + r) / 2 := ⟨_, rfl⟩
      obtain ⟨d, hd⟩ : ∃ d, d = N1 - c := ⟨_, rfl⟩
      have h1 : s ≤ c := by omega
      have h2 : c < r := by omega
      have hdm : m ≤ d := by omega
      have hdy : d < y := by omega
      have e1 : IntKind.i64.wrap ((s : Int) + r) = (s : Int) + r := IntWalk.i64_in _ (by omega)
      have e2 : ((s : Int) + r) / 2 = c := by omega
      have e3 : IntKind.i64.wrap ((mid : Int) + m - 1 - c) = (d : Int) := by rw [IntWalk.i64_in _ (by omega)]; omega
      have b1 : (0 : Int) ≤ c := by omega
      have b2 : (c : Int) < n := by omega
      have b3 : (0 : Int) ≤ d := by omega
      have b4 : (d : Int) < n := by omega
      have Hc := Lib.hid (And.intro hc hd)
      clear hc hd hmid hN hs0 hN1 hside
      have hp' := hK.a d (by omega)
      have hq' := hK.a c (by omega)
      try dsimp only at hp' hq'
      obtain ⟨X, hX⟩ : ∃ X, (F0 d).1 = X := ⟨_, rfl⟩
      obtain ⟨Y, hY⟩ : ∃ Y, (F0 c).1 = Y := ⟨_, rfl⟩
      rw [hX] at hp'
      rw [hY] at hq'
      have HX := Lib.hid hX
      have HY := Lib.hid hY
      clear hX hY
      obtain ⟨p1, p2, p3, p4, p5, p6⟩ := hp'
      obtain ⟨q1, q2, q3, q4, q5, q6⟩ := hq'
      have HK : KeepS w b off n S J (fun i => (F0 i).1) wr.drew := ⟨hK.a.drew, hJ _ _ (Mod.drew Mod.refl) hK.j, hK.m.drew⟩
      clear hK
      go_wp2
      go_region_held3 (fun W => W.cell? ⟨b, off + d * 3, none⟩ = some (.int .i64 X.at_) ∧ W.cell? ⟨b, off + d * 3 + 1, none⟩ = some (.int .i64 X.v.m) ∧ W.cell? ⟨b, off + d * 3 + 2, none⟩ = some (.int .i64 X.v.c) ∧ W.cell? ⟨b, off + c * 3, none⟩ = some (.int .i64 Y.at_) ∧ W.cell? ⟨b, off + c * 3 + 1, none⟩ = some (.int .i64 Y.v.m) ∧ W.cell? ⟨b, off + c * 3 + 2, none⟩ = some (.int .i64 Y.v.c) ∧ KeepS w b off n S J (fun i => (F0 i).1) W)
        ((refine ⟨?_, ?_, ?_, ?_, ?_, ?_, ?_⟩ <;> (first | assumption | (exact mod_cell hM1 hSb (by assumption)))))
        (first | ((refine (hcmp.at_ hSb ‹KeepS _ _ _ _ _ _ _ _› _ _).mono ?_); rintro e w1 ⟨⟨z, rfl, hz⟩, hK1, hM1⟩; have Hz := Lib.hid hz; clear hz))
      clear p1 p2 p3 p4 p5 p6 q1 q2 q3 q4 q5 q6 HK hM1
      by_cases hl : lt X Y
      · have hz1 : z < 0 := Hz.out.2 hl
        have hz2 : (!decide (z < 0)) = false := by simp [hz1]
        have HL := Lib.hid hl
        clear hl e1 e2 e3
        rw [hz2]
        go_wp2
        go_roundw
        case rel =>
          refine ⟨s, c, hs, h1, by omega, rfl, rfl, Hlo.out, .inr ?_, hK1⟩
          rw [← Hc.out.2, HX.out, HY.out]; exact HL.out
        case measure => first | (simp [intOf]; done) | (simp [intOf]; omega)
      · have hz1 : 0 ≤ z := by have := Hz.out; exact Int.not_lt.1 (fun h => hl (this.1 h))
        have hz2 : (!decide (z < 0)) = true := by simp; exact hz1
        have HL := Lib.hid hl
        clear hl e1 e2 e3
        rw [hz2]
        go_wp2
        go_roundw
        case rel =>
          refine ⟨c + 1, r, by omega, by omega, hr, by go_num, rfl, .inr ?_, Hhi.out, hK1⟩
          have := Hc.out.2
          have := Hmid.out.2.2.2
          rw [show N - (c + 1) = d by omega, Nat.add_sub_cancel, HX.out, HY.out]; exact HL.out
        case measure => first | (simp [intOf]; done) | (simp [intOf]; omega)
    · obtain rfl : s = r := by omega
      obtain ⟨e, he⟩ : ∃ e, e = N - s := ⟨_, rfl⟩
      have e1 : IntKind.i64.wrap ((mid : Int) + m - s) = (e : Int) := by rw [IntWalk.i64_in _ (by omega)]; omega
      have q1 : x ≤ s := by omega
      have q2 : s ≤ m := by omega
      have q3 : m ≤ e := by omega
      have q4 : e ≤ y := by omega
      have q5 : mid = s + (e - m) := by omega
      have q6 : s ≤ mid ∧ x < mid ∧ mid < y := by omega
      have c1 : ∀ p, p + 1 = s → x ≤ p → e < y → tl lt (F0 p) (F0 e) := fun p h1 h2 h3 => by
        rcases Hlo.out with h | h
        · omega
        · refine tl_of_not ?_ (HH.out.1.t p e h2 (by omega) q3 h3)
          rw [he, show p = s - 1 by omega]; exact h
      have c2 : ∀ p, p + 1 = e → m ≤ p → s < m → tl lt (F0 p) (F0 s) := fun p h1 h2 h3 => by
        rcases Hhi.out with h | h
        · omega
        · refine .inl ?_
          rw [show p = N1 - s by omega]; exact h
      have Hcr := Lib.hid (HH.out.1.cross hlt q1 q2 q3 q4 c1 c2)
      have Hl := Lib.hid (HH.out.1.left q1 q2 q3 q4)
      have Hr := Lib.hid (HH.out.1.right q1 q2 q3 q4)
      rw [← q5] at Hcr Hl Hr
      have Hq5 := Lib.hid q5
      have Hq6 := Lib.hid q6
      have Hq := Lib.hid (And.intro q1 (And.intro q2 (And.intro q3 q4)))
      clear c1 c2 hmid hN hs0 hN1 hside he q5 hlt' hsr hs hr q6 q1 q2 q3 q4
      obtain ⟨F1, hF1⟩ : ∃ F1, F1 = rotR F0 s m e := ⟨_, rfl⟩
      rw [← hF1] at Hcr Hl Hr
      have HF1 := Lib.hid hF1
      clear hF1
      obtain ⟨q1, q2, q3, q4⟩ := Hq.out
      have q5 := Hq5.out
      have q6 := Hq6.out
      by_cases c1 : s < m
      · by_cases c2 : m < e
        · by_cases c3 : x < s
          · by_cases c4 : e < y
            · have b9 : s < mid := by omega
              have b10 : mid < e := by omega
              have hc := rotate_seg b off n cap s m e (.func (.func g) fst #[]) (fun i => (F0 i).1) wr hn (by omega) (by omega) (by omega) hK.a
              have tokL : True := trivial
              have tokR : True := trivial
              obtain ⟨q6a, q6b, q6c⟩ := q6
              clear q5
              go_wp2_with (first | (go_at_call 113; refine hc.mono ?_; clear hc; rintro ee w1 ⟨⟨rr, rfl⟩, hA1, hM1⟩; have hK1 : KeepS w b off n S J (fun i => (F1 i).1) w1 := ⟨hA1.congr fun i _ => (by rw [HF1.out]; exact rotR_map (fun u => u.1) F0 s m e i), hJ _ _ hM1 hK.j, hK.m.trans (hM1.wide fun _ h => .inl h)⟩; clear hA1 hM1) | (go_at_call 112; have _t := tokL; refine (ih x s mid F1 _ (by have := Hq5.out; omega) (by omega) (by omega) (by omega) Hl.out hK1.a hK1.j).mono ?_; clear tokL; rintro ee w2 ⟨⟨rr2, rfl⟩, ⟨G1, hG1, hS1, hT1⟩, hJ2, hM2⟩; have HS1 := Lib.hid hS1; have HT1 := Lib.hid hT1; clear hS1 hT1) | (go_at_call 112; have _t := tokR; refine (ih mid e y G1 _ (by have := Hq5.out; omega) (by omega) (by omega) (by omega) (Hr.out.of_left HS1.out (by omega)) hG1 hJ2).mono ?_; clear tokR; rintro ee w3 ⟨⟨rr3, rfl⟩, ⟨G2, hG2, hS2, hT2⟩, hJ3, hM3⟩; have HS2 := Lib.hid hS2; have HT2 := Lib.hid hT2; clear hS2 hT2))
              go_end0
              have q5 := Hq5.out
              obtain ⟨j1, j2⟩ := join_srt (by omega) (by omega) Hcr.out HS1.out HT1.out HS2.out HT2.out
              exact ⟨⟨_, rfl⟩, ⟨_, hG2, ((Same.rot q2 q3).wide q1 q4).trans (by rw [← HF1.out]; exact j1), j2⟩, hJ3, ((hK1.m.trans hM2).trans hM3)⟩
            · have hey : e = y := by omega
              have b9 : s < mid := by omega
              have b10 : mid < e := by omega
              have hR : Srt (tl lt) mid y F1 := by have h := Hr.out.l; rw [hey] at h; exact h
              have hc := rotate_seg b off n cap s m e (.func (.func g) fst #[]) (fun i => (F0 i).1) wr hn (by omega) (by omega) (by omega) hK.a
              have tokL : True := trivial
              have Hhey := Lib.hid hey
              clear hey
              obtain ⟨q6a, q6b, q6c⟩ := q6
              clear q5
              go_wp2_with (first | (go_at_call 113; refine hc.mono ?_; clear hc; rintro ee w1 ⟨⟨rr, rfl⟩, hA1, hM1⟩; have hK1 : KeepS w b off n S J (fun i => (F1 i).1) w1 := ⟨hA1.congr fun i _ => (by rw [HF1.out]; exact rotR_map (fun u => u.1) F0 s m e i), hJ _ _ hM1 hK.j, hK.m.trans (hM1.wide fun _ h => .inl h)⟩; clear hA1 hM1) | (go_at_call 112; have _t := tokL; refine (ih x s mid F1 _ (by have := Hq5.out; omega) (by omega) (by omega) (by omega) Hl.out hK1.a hK1.j).mono ?_; clear tokL; rintro ee w2 ⟨⟨rr2, rfl⟩, ⟨G1, hG1, hS1, hT1⟩, hJ2, hM2⟩; have HS1 := Lib.hid hS1; have HT1 := Lib.hid hT1; clear hS1 hT1))
              go_end0
              have q5 := Hq5.out
              obtain ⟨j1, j2⟩ := join_srt (by omega) (by omega) Hcr.out HS1.out HT1.out Same.refl (fun p q h1 h2 h3 => by rw [HS1.out.out p (.inr h1), HS1.out.out q (.inr (by omega))]; exact hR p q h1 h2 h3)
              exact ⟨⟨_, rfl⟩, ⟨_, hG1, ((Same.rot q2 q3).wide q1 q4).trans (by rw [← HF1.out]; exact j1), j2⟩, hJ2, (hK1.m.trans hM2)⟩
          · by_cases c4 : e < y
            · have hxs : x = s := by omega
              have b9 : s < mid := by omega
              have b10 : mid < e := by omega
              have hL : Srt (tl lt) x mid F1 := by have h := Hl.out.r; rw [← hxs] at h; exact h
              have hc := rotate_seg b off n cap s m e (.func (.func g) fst #[]) (fun i => (F0 i).1) wr hn (by omega) (by omega) (by omega) hK.a
              have tokR : True := trivial
              have Hhxs := Lib.hid hxs
              clear hxs
              obtain ⟨q6a, q6b, q6c⟩ := q6
              clear q5
              go_wp2_with (first | (go_at_call 113; refine hc.mono ?_; clear hc; rintro ee w1 ⟨⟨rr, rfl⟩, hA1, hM1⟩; have hK1 : KeepS w b off n S J (fun i => (F1 i).1) w1 := ⟨hA1.congr fun i _ => (by rw [HF1.out]; exact rotR_map (fun u => u.1) F0 s m e i), hJ _ _ hM1 hK.j, hK.m.trans (hM1.wide fun _ h => .inl h)⟩; clear hA1 hM1) | (go_at_call 112; have _t := tokR; refine (ih mid e y F1 _ (by have := Hq5.out; omega) (by omega) (by omega) (by omega) Hr.out hK1.a hK1.j).mono ?_; clear tokR; rintro ee w3 ⟨⟨rr3, rfl⟩, ⟨G2, hG2, hS2, hT2⟩, hJ3, hM3⟩; have HS2 := Lib.hid hS2; have HT2 := Lib.hid hT2; clear hS2 hT2))
              go_end0
              have q5 := Hq5.out
              obtain ⟨j1, j2⟩ := join_srt (by omega) (by omega) Hcr.out Same.refl hL HS2.out HT2.out
              exact ⟨⟨_, rfl⟩, ⟨_, hG2, ((Same.rot q2 q3).wide q1 q4).trans (by rw [← HF1.out]; exact j1), j2⟩, hJ3, (hK1.m.trans hM3)⟩
            · have hxs : x = s := by omega
              have hey : e = y := by omega
              have b9 : s < mid := by omega
              have b10 : mid < e := by omega
              have hL : Srt (tl lt) x mid F1 := by have h := Hl.out.r; rw [← hxs] at h; exact h
              have hR : Srt (tl lt) mid y F1 := by have h := Hr.out.l; rw [hey] at h; exact h
              have hc := rotate_seg b off n cap s m e (.func (.func g) fst #[]) (fun i => (F0 i).1) wr hn (by omega) (by omega) (by omega) hK.a
              have Hhxs := Lib.hid hxs
              clear hxs
              have Hhey := Lib.hid hey
              clear hey
              obtain ⟨q6a, q6b, q6c⟩ := q6
              clear q5
              go_wp2_with (first | (go_at_call 113; refine hc.mono ?_; clear hc; rintro ee w1 ⟨⟨rr, rfl⟩, hA1, hM1⟩; have hK1 : KeepS w b off n S J (fun i => (F1 i).1) w1 := ⟨hA1.congr fun i _ => (by rw [HF1.out]; exact rotR_map (fun u => u.1) F0 s m e i), hJ _ _ hM1 hK.j, hK.m.trans (hM1.wide fun _ h => .inl h)⟩; clear hA1 hM1))
              go_end0
              have q5 := Hq5.out
              obtain ⟨j1, j2⟩ := join_srt (by omega) (by omega) Hcr.out Same.refl hL Same.refl hR
              exact ⟨⟨_, rfl⟩, ⟨_, hK1.a, ((Same.rot q2 q3).wide q1 q4).trans (by rw [← HF1.out]; exact j1), j2⟩, hK1.j, hK1.m⟩
        · have hid : m = e := by omega
          have hsm : s = mid := by omega
          have b9 : ¬ s < mid := by omega
          have b10 : mid < e := by omega
          have b11 : e < y := by omega
          have hL : Srt (tl lt) x mid F1 := by have h := Hl.out.l; rw [hsm] at h; exact h
          have hK1 : KeepS w b off n S J (fun i => (F1 i).1) wr := by rw [HF1.out, rotR_id1 hid q2]; exact hK
          have tokR : True := trivial
          have Hhid := Lib.hid hid
          clear hid
          have Hhsm := Lib.hid hsm
          clear hsm
          obtain ⟨q6a, q6b, q6c⟩ := q6
          clear q5
          go_wp2_with (first | (go_at_call 112; have _t := tokR; refine (ih mid e y F1 _ (by have := Hq5.out; omega) (by omega) (by omega) (by omega) Hr.out hK1.a hK1.j).mono ?_; clear tokR; rintro ee w3 ⟨⟨rr3, rfl⟩, ⟨G2, hG2, hS2, hT2⟩, hJ3, hM3⟩; have HS2 := Lib.hid hS2; have HT2 := Lib.hid hT2; clear hS2 hT2))
          go_end0
          have q5 := Hq5.out
          obtain ⟨j1, j2⟩ := join_srt (by omega) (by omega) Hcr.out Same.refl hL HS2.out HT2.out
          exact ⟨⟨_, rfl⟩, ⟨_, hG2, ((Same.rot q2 q3).wide q1 q4).trans (by rw [← HF1.out]; exact j1), j2⟩, hJ3, (hK1.m.trans hM3)⟩
      · by_cases c2 : m < e
        · have hid : s = m := by omega
          have hem : e = mid := by omega
          have b9 : s < mid := by omega
          have b10 : ¬ mid < e := by omega
          have b11 : x < s := by omega
          have hR : Srt (tl lt) mid y F1 := by have h := Hr.out.r; rw [hem] at h; exact h
          have hK1 : KeepS w b off n S J (fun i => (F1 i).1) wr := by rw [HF1.out, rotR_id2 q3 hid]; exact hK
          have tokL : True := trivial
          have Hhid := Lib.hid hid
          clear hid
          have Hhem := Lib.hid hem
          clear hem
          obtain ⟨q6a, q6b, q6c⟩ := q6
          clear q5
          go_wp2_with (first | (go_at_call 112; have _t := tokL; refine (ih x s mid F1 _ (by have := Hq5.out; omega) (by omega) (by omega) (by omega) Hl.out hK1.a hK1.j).mono ?_; clear tokL; rintro ee w2 ⟨⟨rr2, rfl⟩, ⟨G1, hG1, hS1, hT1⟩, hJ2, hM2⟩; have HS1 := Lib.hid hS1; have HT1 := Lib.hid hT1; clear hS1 hT1))
          go_end0
          have q5 := Hq5.out
          obtain ⟨j1, j2⟩ := join_srt (by omega) (by omega) Hcr.out HS1.out HT1.out Same.refl (fun p q h1 h2 h3 => by rw [HS1.out.out p (.inr h1), HS1.out.out q (.inr (by omega))]; exact hR p q h1 h2 h3)
          exact ⟨⟨_, rfl⟩, ⟨_, hG1, ((Same.rot q2 q3).wide q1 q4).trans (by rw [← HF1.out]; exact j1), j2⟩, hJ2, (hK1.m.trans hM2)⟩
        · have hid : s = m := by omega
          have hsm : s = mid := by omega
          have hem : e = mid := by omega
          have b9 : ¬ s < mid := by omega
          have b10 : ¬ mid < e := by omega
          have hL : Srt (tl lt) x mid F1 := by have h := Hl.out.l; rw [hsm] at h; exact h
          have hR : Srt (tl lt) mid y F1 := by have h := Hr.out.r; rw [hem] at h; exact h
          have hK1 : KeepS w b off n S J (fun i => (F1 i).1) wr := by rw [HF1.out, rotR_id2 q3 hid]; exact hK
          have Hhid := Lib.hid hid
          clear hid
          have Hhsm := Lib.hid hsm
          clear hsm
          have Hhem := Lib.hid hem
          clear hem
          obtain ⟨q6a, q6b, q6c⟩ := q6
          clear q5
          go_wp2
          go_end0
          have q5 := Hq5.out
          obtain ⟨j1, j2⟩ := join_srt (by omega) (by omega) Hcr.out Same.refl hL Same.refl hR
          exact ⟨⟨_, rfl⟩, ⟨_, hK1.a, ((Same.rot q2 q3).wide q1 q4).trans (by rw [← HF1.out]; exact j1), j2⟩, hK1.j, hK1.m⟩

end
end Go.Proofs.Ytdbogephaddbjaa
