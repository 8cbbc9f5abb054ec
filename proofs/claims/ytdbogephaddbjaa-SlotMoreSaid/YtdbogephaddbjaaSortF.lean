/- slices.SortStableFunc at runs: the stable order. -/
import Derived.Test.YtdbogephaddbjaaSortD
import Derived.Test.YtdbogephaddbjaaSortE
import Derived.Tactics
import Derived.Tactics2
import Derived.WalkKit
import Derived.LoopTactic
import Derived.WalkLawsBesides
import Derived.WalkSpells
import Derived.Outline
import Derived.Deep.QuietTactic
import Derived.BigQuiet
import Derived.Deep.DeepCutAuto
import Derived.Deep.LoopGhost
import Derived.Deep.RegionHeld3
import Derived.RegionTactic
import Derived.KernelRfl
import Derived.Lib.Hide
set_option linter.unusedVariables false
set_option linter.unusedSimpArgs false
namespace Go.Proofs.Ytdbogephaddbjaa
open Go.RowKit

section
variable {lt : Seg → Seg → Prop} {g : Nat} {fst : Array Value} {S : Nat → Prop} {J : World → Prop}

theorem symMerge_seg (hlt : SWO lt) (hg : Enters Try.prog g) (hcmp : CmpSeg lt g fst S J) (b off n cap : Nat) (hSb : ¬ S b) (hJ : ∀ W W', Mod (fun k => k = b) W W' → J W → J W') (hn : n ≤ 1000000) :
    ∀ (N x m y : Nat) (F0 : Nat → Seg × Nat) (w : World), y - x ≤ N → x < m → m < y → y ≤ n → MP lt x m y F0 → (SegArr w b off n fun i => (F0 i).1) → J w →
      Calls Try.prog 112 #[.slice (some ⟨b, off, none⟩) n cap, .int .i64 x, .int .i64 m, .int .i64 y, .func (.func g) fst #[]] w (MergePost lt S J b off n x y F0 w) := by
  intro N
  induction N with
  | zero => intro x m y F0 w h1 h2 h3; omega
  | succ N ih =>
    intro x m y F0 w h1 h2 h3 h4 hmp hF hJw
    by_cases c1 : m = x + 1
    · subst c1
      exact symMerge_left hlt hg hcmp b off n cap x y hSb hJ F0 w hn h3 h4 hmp hF hJw
    · by_cases c2 : y = m + 1
      · subst c2
        exact symMerge_right hlt hg hcmp b off n cap x m 0 hSb hJ F0 w hn (by omega) h4 hmp hF hJw
      · have ih' : ∀ (x' m' y' : Nat) (F0 : Nat → Seg × Nat) (w : World), y' - x' < y - x → x' < m' → m' < y' → y' ≤ n → MP lt x' m' y' F0 → (SegArr w b off n fun i => (F0 i).1) → J w →
            Calls Try.prog 112 #[.slice (some ⟨b, off, none⟩) n cap, .int .i64 x', .int .i64 m', .int .i64 y', .func (.func g) fst #[]] w (MergePost lt S J b off n x' y' F0 w) :=
          fun x' m' y' F0 w g1 g2 g3 g4 g5 g6 g7 => ih x' m' y' F0 w (by omega) g2 g3 g4 g5 g6 g7
        by_cases c3 : (x + y) / 2 < m
        · exact symMerge_main_hi hlt hg hcmp b off n cap x m y hSb hJ F0 w hn (by omega) (by omega) h4 hmp hF hJw ih' _ rfl c3
        · exact symMerge_main_lo hlt hg hcmp b off n cap x m y hSb hJ F0 w hn (by omega) (by omega) h4 hmp hF hJw ih' _ rfl (by omega)

set_option maxHeartbeats 400000 in
theorem insertion_none (A : Option Addr) (n cap : Nat) (v : Value) (w : World) :
    Calls Try.prog 111 #[.slice A n cap, .int .i64 0, .int .i64 0, v] w fun e w' => (∃ r, e = .returned r) ∧ w = w' := by
  go_enter Try.func111, Try.ntmps111
  go_wp2
  refine wp_loop_rounds 1 ?_
  rw [rounds_succ]
  go_wp2
  go_end0
  exact ⟨⟨_, rfl⟩, rfl⟩

set_option maxHeartbeats 400000 in
theorem stable_none (A : Option Addr) (cap : Nat) (v : Value) (w : World) :
    Calls Try.prog 106 #[.slice A 0 cap, .int .i64 0, v] w fun e w' => (∃ r, e = .returned r) ∧ w = w' := by
  go_enter Try.func106, Try.ntmps106
  go_wp2
  refine wp_loop_rounds 1 ?_
  rw [rounds_succ]
  go_wp2_with (go_at_call 111; refine (insertion_none A 0 cap v _).mono ?_; rintro e w' ⟨⟨r, rfl⟩, rfl⟩)
  refine wp_loop_rounds 1 ?_
  rw [rounds_succ]
  go_wp2
  go_end0
  exact ⟨⟨_, rfl⟩, rfl⟩

set_option maxHeartbeats 400000 in
theorem sortStable_none (A : Option Addr) (cap : Nat) (v : Value) (w : World) :
    Calls Try.prog 101 #[.slice A 0 cap, v] w fun e w' => (∃ r, e = .returned r) ∧ w = w' := by
  go_enter Try.func101, Try.ntmps101
  go_wp2_with (go_at_call 106; refine (stable_none A cap v _).mono ?_; rintro e w' ⟨⟨r, rfl⟩, rfl⟩)
  go_end0
  exact ⟨⟨_, rfl⟩, rfl⟩

/-- What the loops of stable keep. -/
structure StK (w : World) (b off n : Nat) (S : Nat → Prop) (J : World → Prop) (F0 F : Nat → Seg × Nat) (W : World) : Prop where
  k : KeepS w b off n S J (fun i => (F i).1) W
  s : Same 0 n F0 F
theorem StK.of {w : World} {b off n : Nat} {F0 F G : Nat → Seg × Nat} {W W' : World} {x y : Nat} (h : StK w b off n S J F0 F W) (hy : y ≤ n) (ha : SegArr W' b off n (fun i => (G i).1)) (hs : Same x y F G) (hj : J W') (hm : Mod (fun k => k = b ∨ S k) W W') : StK w b off n S J F0 G W' :=
  ⟨⟨ha, hj, h.k.m.trans hm⟩, h.s.trans (hs.wide (Nat.zero_le _) hy)⟩

set_option maxRecDepth 20000 in
set_option maxHeartbeats 4000000 in
theorem stable_seg (hlt : SWO lt) (hg : Enters Try.prog g) (hcmp : CmpSeg lt g fst S J) (b off n cap : Nat) (hSb : ¬ S b) (hJ : ∀ W W', Mod (fun k => k = b) W W' → J W → J W') (hn : n ≤ 1000000)
    (F : Nat → Seg) (w : World) (hF : SegArr w b off n F) (hJw : J w) :
    Calls Try.prog 106 #[.slice (some ⟨b, off, none⟩) n cap, .int .i64 n, .func (.func g) fst #[]] w fun e w' =>
      (∃ r, e = .returned r) ∧ (∃ G : Nat → Seg × Nat, SegArr w' b off n (fun i => (G i).1) ∧ Same 0 n (fun i => (F i, i)) G ∧ Srt (tl lt) 0 n G) ∧ J w' ∧ Mod (fun k => k = b ∨ S k) w w' := by
  have hins := fun (x y : Nat) (F0 : Nat → Seg × Nat) (w : World) => insertion_seg lt hlt g fst S J hg hcmp b off n cap x y hSb hJ F0 w hn
  have hmer := fun (x m y : Nat) (F0 : Nat → Seg × Nat) (w : World) => symMerge_seg hlt hg hcmp b off n cap hSb hJ hn (y - x) x m y F0 w (Nat.le_refl _)
  have hK0 : StK w b off n S J (fun i => (F i, i)) (fun i => (F i, i)) w := ⟨⟨hF, hJw, Mod.refl⟩, Same.refl⟩
  clear hF hJw hcmp
  go_enter Try.func106, Try.ntmps106
  go_wp2
  go_loopw [7, 8] (fun x y W => ∃ (a : Nat) (G : Nat → Seg × Nat), 20 ∣ a ∧ a ≤ n ∧ x = .int .i64 a ∧ y = .int .i64 (a + 20) ∧ StK w b off n S J (fun i => (F i, i)) G W ∧ (∀ a', 20 ∣ a' → a' < a → Good lt n a' 20 G) ∧ (∀ i, a ≤ i → G i = (F i, i))) (fun x _ _ => n - (intOf x).toNat)
  case atStart => exact ⟨0, _, Nat.dvd_zero _, by omega, rfl, by go_num, hK0, fun a' _ h => by omega, fun i _ => rfl⟩
  case round =>
    obtain ⟨a, G, hda, han, rfl, rfl, hK, hgood, heq⟩ := hrel
    have HH := Lib.hid (And.intro hda (And.intro hgood heq))
    clear hda hgood heq
    have e1 : IntKind.i64.wrap ((a : Int) + 20 + 20) = (a : Int) + 20 + 20 := IntWalk.i64_in _ (by omega)
    by_cases hlt' : a + 20 ≤ n
    · have hc := hins a (a + 20) G wr (by omega) hlt' (fun p q h1 h2 h3 => by rw [HH.out.2.2 p h1, HH.out.2.2 q (by omega)]; exact h2) hK.k.a hK.k.j
      clear hins hmer
      go_wp2_with (go_at_call 111; refine hc.mono ?_; clear hc; rintro e w1 ⟨⟨r, rfl⟩, ⟨G1, hA1, hS1, hT1⟩, hJ1, hM1⟩)
      go_roundw
      case rel =>
        obtain ⟨hda, hgood, heq⟩ := HH.out
        refine ⟨a + 20, G1, Nat.dvd_add hda (Nat.dvd_refl _), hlt', by go_num, by go_num, hK.of hlt' hA1 hS1 hJ1 hM1, fun a' hd' hlt2 => ?_, fun i hi => (hS1.out i (.inr hi)).trans (heq i (by omega))⟩
        by_cases c : a' < a
        · have := dvd_gap hd' hda c
          exact (hgood a' hd' c).congr fun i h1 h2 h3 => hS1.out i (.inl (by omega))
        · have : a' = a := by
            rcases Nat.lt_or_ge a a' with c2 | c2
            · have := dvd_gap hda hd' c2; omega
            · omega
          subst this
          refine ⟨fun i h1 h2 h3 => ?_, fun i j h1 h2 h3 h4 => hT1 i j h1 h2 h3⟩
          obtain ⟨k, k1, k2, e⟩ := hS1.fro i h1 h2
          rw [e, heq k k1]
          exact ⟨k1, k2⟩
      case measure => first | (simp [intOf]; done) | (simp [intOf]; omega)
    · have hc := hins a n G wr (by omega) (Nat.le_refl _) (fun p q h1 h2 h3 => by rw [HH.out.2.2 p h1, HH.out.2.2 q (by omega)]; exact h2) hK.k.a hK.k.j
      clear hins
      have b1 : ¬ ((a : Int) + 20 ≤ n) := by omega
      have Hmer := Lib.hid hmer
      clear hmer
      go_wp2_with (go_at_call 111; refine hc.mono ?_; clear hc; rintro e w1 ⟨⟨r, rfl⟩, ⟨G1, hA1, hS1, hT1⟩, hJ1, hM1⟩)
      have hK1 := hK.of (Nat.le_refl _) hA1 hS1 hJ1 hM1
      have hg1 : ∀ a', 20 ∣ a' → Good lt n a' 20 G1 := fun a' hd' => by
        obtain ⟨hda, hgood, heq⟩ := HH.out
        by_cases c : a' < a
        · have := dvd_gap hd' hda c
          exact (hgood a' hd' c).congr fun i h1 h2 h3 => hS1.out i (.inl (by omega))
        · rcases Nat.lt_or_ge a a' with c2 | c2
          · have := dvd_gap hda hd' c2
            exact ⟨fun i h1 h2 h3 => by omega, fun i j h1 h2 h3 h4 => by omega⟩
          · have : a' = a := by omega
            subst this
            refine ⟨fun i h1 h2 h3 => ?_, fun i j h1 h2 h3 h4 => hT1 i j h1 h2 h4⟩
            obtain ⟨k, k1, k2, e⟩ := hS1.fro i h1 h3
            rw [e, heq k k1]
            dsimp only
            omega
      have Hg1 := Lib.hid hg1
      clear hS1 hT1 hA1 hJ1 hM1 hK hg1 b1 e1
      go_loopw [6, 7, 8, 9] (fun z _ _ _ W => ∃ (bs : Nat) (G : Nat → Seg × Nat), 20 ≤ bs ∧ bs ≤ 2 * n + 20 ∧ z = .int .i64 bs ∧ StK w b off n S J (fun i => (F i, i)) G W ∧ (∀ a', bs ∣ a' → Good lt n a' bs G)) (fun z _ _ _ _ => n - (intOf z).toNat)
      case atStart => exact ⟨20, G1, by omega, by omega, rfl, hK1, Hg1.out⟩
      case round =>
        obtain ⟨bs, G2, hb1, hb2, rfl, hK2, hgood2⟩ := hrel
        have HG2 := Lib.hid hgood2
        clear hgood2 hK1
        have e2 : IntKind.i64.wrap (2 * (bs : Int)) = 2 * (bs : Int) := IntWalk.i64_in _ (by omega)
        by_cases hbn : bs < n
        · obtain ⟨wo, hwo⟩ : ∃ wo : World, wo = wr := ⟨_, rfl⟩
          subst hwo
          go_wp2
          go_loopw [7, 8] (fun x y W => ∃ (a : Nat) (G : Nat → Seg × Nat), (bs + bs) ∣ a ∧ a ≤ n ∧ x = .int .i64 a ∧ y = .int .i64 (a + 2 * (bs : Int)) ∧ StK w b off n S J (fun i => (F i, i)) G W ∧ (∀ a', (bs + bs) ∣ a' → a' < a → Good lt n a' (bs + bs) G) ∧ (∀ a', bs ∣ a' → a ≤ a' → Good lt n a' bs G)) (fun x _ _ => n - (intOf x).toNat)
          case atStart => exact ⟨0, G2, Nat.dvd_zero _, by omega, rfl, by go_num, hK2, fun a' _ h => by omega, fun a' h _ => HG2.out a' h⟩
          case round =>
            obtain ⟨a, G, hda, han, rfl, rfl, hK, hlow, hhigh⟩ := hrel
            have hdb : bs ∣ a := Nat.dvd_trans ⟨2, by omega⟩ hda
            have g1 := hhigh a hdb (Nat.le_refl _)
            have g2 := hhigh (a + bs) (Nat.dvd_add hdb (Nat.dvd_refl _)) (by omega)
            have HH := Lib.hid (And.intro hda (And.intro hdb (And.intro hlow (And.intro hhigh (And.intro g1 g2)))))
            clear hda hdb hlow hhigh g1 g2 hK2
            have e3 : IntKind.i64.wrap ((a : Int) + bs) = (a : Int) + bs := IntWalk.i64_in _ (by omega)
            have e4 : IntKind.i64.wrap ((a : Int) + 2 * (bs : Int) + 2 * (bs : Int)) = (a : Int) + 2 * (bs : Int) + 2 * (bs : Int) := IntWalk.i64_in _ (by omega)
            by_cases hlt2 : a + (bs + bs) ≤ n
            · have hc := Hmer.out a (a + bs) (a + (bs + bs)) G wr (by omega) (by omega) hlt2 (HH.out.2.2.2.2.1.mp HH.out.2.2.2.2.2 (by omega) hlt2 (by omega)) hK.k.a hK.k.j
              rw [show (((a + (bs + bs) : Nat)) : Int) = (a : Int) + 2 * (bs : Int) by omega, show (((a + bs : Nat)) : Int) = (a : Int) + (bs : Int) by omega] at hc
              have b1 : (a : Int) + 2 * (bs : Int) ≤ n := by omega
              go_wp2_with (go_at_call 112; refine hc.mono ?_; clear hc; rintro e w2 ⟨⟨r, rfl⟩, ⟨G3, hA3, hS3, hT3⟩, hJ3, hM3⟩)
              go_roundw
              case rel =>
                obtain ⟨hda, hdb, hlow, hhigh, g1, g2⟩ := HH.out
                refine ⟨a + (bs + bs), G3, Nat.dvd_add hda (Nat.dvd_refl _), hlt2, ?_, ?_, hK.of hlt2 hA3 hS3 hJ3 hM3, fun a' hd' hlt3 => ?_, fun a' hd' hle' => ?_⟩
                · exact congrArg (Value.int .i64) (by omega)
                · exact congrArg (Value.int .i64) (by omega)
                · by_cases c : a' < a
                  · have := dvd_gap hd' hda c
                    exact (hlow a' hd' c).congr fun i h1 h2 h3 => hS3.out i (.inl (by omega))
                  · have : a' = a := by
                      rcases Nat.lt_or_ge a a' with c2 | c2
                      · have := dvd_gap hda hd' c2; omega
                      · omega
                    subst this
                    exact g1.of_merge g2 (by omega) hS3 hT3
                · exact (hhigh a' hd' (by omega)).congr fun i h1 h2 h3 => hS3.out i (.inr (by omega))
              case measure => first | (simp [intOf]; done) | (simp [intOf]; omega)
            · have b1 : ¬ ((a : Int) + 2 * (bs : Int) ≤ n) := by omega
              have e5 : IntKind.i64.wrap ((bs : Int) * 2) = (bs : Int) * 2 := IntWalk.i64_in _ (by omega)
              have fin : ∀ G3 : Nat → Seg × Nat, Same a n G G3 → Srt (tl lt) a n G3 → ∀ a', (bs * 2) ∣ a' → Good lt n a' (bs * 2) G3 := fun G3 hS3 hT3 a' hd' => by
                obtain ⟨hda, hdb, hlow, hhigh, g1, g2⟩ := HH.out
                rw [show bs * 2 = bs + bs by omega] at hd' ⊢
                by_cases c : a' < a
                · have := dvd_gap hd' hda c
                  exact (hlow a' hd' c).congr fun i h1 h2 h3 => hS3.out i (.inl (by omega))
                · rcases Nat.lt_or_ge a a' with c2 | c2
                  · have := dvd_gap hda hd' c2
                    exact ⟨fun i h1 h2 h3 => by omega, fun i j h1 h2 h3 h4 => by omega⟩
                  · have : a' = a := by omega
                    subst this
                    exact g1.of_merge g2 (by omega) hS3 hT3
              have Hfin := Lib.hid fin
              clear fin
              by_cases hlt3 : a + bs < n
              · have hc := Hmer.out a (a + bs) n G wr (by omega) hlt3 (Nat.le_refl _) (HH.out.2.2.2.2.1.mp HH.out.2.2.2.2.2 (by omega) (Nat.le_refl _) (by omega)) hK.k.a hK.k.j
                rw [show (((a + bs : Nat)) : Int) = (a : Int) + (bs : Int) by omega] at hc
                have b2 : (a : Int) + bs < n := by omega
                go_wp2_with (go_at_call 112; refine hc.mono ?_; clear hc; rintro e w2 ⟨⟨r, rfl⟩, ⟨G3, hA3, hS3, hT3⟩, hJ3, hM3⟩)
                go_roundw
                case rel => exact ⟨bs * 2, G3, by omega, by omega, congrArg (Value.int .i64) (by omega), hK.of (Nat.le_refl _) hA3 hS3 hJ3 hM3, Hfin.out G3 hS3 hT3⟩
                case measure => first | (simp [intOf]; done) | (simp [intOf]; omega)
              · have b2 : ¬ ((a : Int) + bs < n) := by omega
                go_wp2
                go_roundw
                case rel => exact ⟨bs * 2, G, by omega, by omega, congrArg (Value.int .i64) (by omega), hK, Hfin.out G Same.refl (fun i j h1 h2 h3 => HH.out.2.2.2.2.1.s i j h1 h2 (by omega) h3)⟩
                case measure => first | (simp [intOf]; done) | (simp [intOf]; omega)
        · go_wp2
          go_end0
          exact ⟨⟨_, rfl⟩, ⟨G2, hK2.k.a, hK2.s, fun i j h1 h2 h3 => (HG2.out 0 (Nat.dvd_zero _)).s i j h1 h2 (by omega) h3⟩, hK2.k.j, hK2.k.m⟩

set_option maxHeartbeats 400000 in
/-- slices.SortStableFunc at runs: the stable order. -/
theorem sortStable_seg [DecidableRel lt] (hlt : SWO lt) (hg : Enters Try.prog g) (hcmp : CmpSeg lt g fst S J) (b off cap : Nat) (hSb : ¬ S b) (hJ : ∀ W W', Mod (fun k => k = b) W W' → J W → J W') (L : List Seg) (hn : L.length ≤ 1000000)
    (w : World) (hF : SegArr w b off L.length (fun i => L.getD i seg0)) (hJw : J w) :
    Calls Try.prog 101 #[.slice (some ⟨b, off, none⟩) L.length cap, .func (.func g) fst #[]] w fun e w' =>
      (∃ r, e = .returned r) ∧ SegArr w' b off L.length (fun i => (isort lt L).getD i seg0) ∧ J w' ∧ Mod (fun k => k = b ∨ S k) w w' := by
  have hc := stable_seg hlt hg hcmp b off L.length cap hSb hJ hn (fun i => L.getD i seg0) w hF hJw
  go_enter Try.func101, Try.ntmps101
  go_wp2_with (go_at_call 106; refine hc.mono ?_; clear hc; rintro e w1 ⟨⟨r, rfl⟩, ⟨G1, hA1, hS1, hT1⟩, hJ1, hM1⟩)
  go_end0
  exact ⟨⟨_, rfl⟩, hA1.congr (fun i hi => (isort_of hlt L seg0 G1 hS1 hT1 i hi).symm), hJ1, hM1⟩

end
end Go.Proofs.Ytdbogephaddbjaa
