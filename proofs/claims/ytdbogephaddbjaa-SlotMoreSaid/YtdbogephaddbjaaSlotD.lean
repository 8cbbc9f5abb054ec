/- slot.low's iterator. -/
import Derived.Test.YtdbogephaddbjaaSlotC
import Derived.Test.YtdbogephaddbjaaCalcB
import Derived.Maps.OwnIn
import Derived.Tactics
import Derived.Tactics2
import Derived.WalkKit
import Derived.LoopTactic
import Derived.WalkLawsBesides
import Derived.WalkSpells
import Derived.Outline
import Derived.Deep.QuietTactic
import Derived.BigQuiet
import Derived.Deep.DeepCutAuto
import Derived.Deep.LoopGhost
import Derived.Deep.RegionHeld3
import Derived.RegionTactic
import Derived.KernelRfl
import Derived.Lib.Hide
set_option linter.unusedVariables false
set_option linter.unusedSimpArgs false
namespace Go.Proofs.Ytdbogephaddbjaa
open Go.RowKit
attribute [local go_sem] Oper.semAt_some

/-- What low's iterator finds at any time: its three captured boxes, the function's runs. -/
structure LowEnv (W : World) (B bw bf bv : Nat) (A : Option Addr) (F : List Seg) (c : Nat) (w : Win) (v : Vec) : Prop where
  w : Bx W bw [.int .i64 w.f, .int .i64 w.t]
  f : Bx W bf [.slice A F.length c]
  v : Bx W bv [.int .i64 v.m, .int .i64 v.c]
  r : Segs W B A F
theorem LowEnv.mod {W W' : World} {B bw bf bv : Nat} {A : Option Addr} {F : List Seg} {c : Nat} {w : Win} {v : Vec} (h : LowEnv W B bw bf bv A F c w v) {S : Nat → Prop} (hM : Mod S W W')
    (hS : ∀ k, S k → ¬ (k < B ∨ k = bw ∨ k = bf ∨ k = bv)) (hB : B ≤ W.heap.size) : LowEnv W' B bw bf bv A F c w v :=
  ⟨h.w.mod hM fun e => hS _ e (.inr (.inl rfl)), h.f.mod hM fun e => hS _ e (.inr (.inr (.inl rfl))), h.v.mod hM fun e => hS _ e (.inr (.inr (.inr rfl))),
    h.r.below (hM.below hB fun k hk => by have := hS k hk; omega)⟩
theorem LowEnv.bl {W W' : World} {B bw bf bv : Nat} {A : Option Addr} {F : List Seg} {c : Nat} {w : Win} {v : Vec} (h : LowEnv W B bw bf bv A F c w v) (hb : Below W.heap.size W W') (hB : B ≤ W.heap.size) : LowEnv W' B bw bf bv A F c w v :=
  h.mod (S := fun _ => False) (Mod.of_bl hb) (fun _ h => h.elim) hB
/-- What it keeps between two rounds: where it stands, the box of the value. -/
structure LowInv (J : (Nat → Prop) → Nat → World → Prop) (W0 W : World) (B bw bf bv ba : Nat) (A : Option Addr) (F : List Seg) (c : Nat) (w : Win) (v : Vec) (i k : Nat) (from_ : Int) (at_ : Vec) (S : Nat → Prop) : Prop where
  e : LowEnv W B bw bf bv A F c w v
  a : Bx W ba [.int .i64 at_.m, .int .i64 at_.c]
  ba : W0.heap.size ≤ ba ∧ S ba
  s : ∀ b, S b → W0.heap.size ≤ b ∧ b < W.heap.size
  j : J S k W
  z : W0.heap.size ≤ W.heap.size
  kl : k ≤ (lowF F w v).length
  d : (lowF F w v).drop k = lowGo w v from_ at_ (F.drop i)
def grow (S : Nat → Prop) (W W' : World) : Nat → Prop := fun b => S b ∨ (W.heap.size ≤ b ∧ b < W'.heap.size)

theorem LowInv.start {J : (Nat → Prop) → Nat → World → Prop} {W0 W : World} {B bw bf bv ba : Nat} {A : Option Addr} {F : List Seg} {c : Nat} {w : Win} {v : Vec} (hE : LowEnv W0 B bw bf bv A F c w v) (hB : B ≤ W0.heap.size)
    (h0 : ∀ S W, Mod (fun _ => False) W0 W → (∀ b, S b → W0.heap.size ≤ b) → J S 0 W) (hb : Below W0.heap.size W0 W) (h1 : W0.heap.size ≤ ba) (h2 : ba < W.heap.size) (ha : Bx W ba [.int .i64 (atF F w.f).m, .int .i64 (atF F w.f).c]) :
    LowInv J W0 W B bw bf bv ba A F c w v 0 0 w.f (atF F w.f) (fun b => W0.heap.size ≤ b ∧ b < W.heap.size) :=
  ⟨hE.bl hb hB, ha, ⟨h1, h1, h2⟩, fun _ h => h, h0 _ _ (Mod.of_bl hb) fun _ h => h.1, hb.size, Nat.zero_le _, rfl⟩

theorem drop_succ_get {α : Type} {l : List α} {i : Nat} {x : α} (h : l[i]? = some x) : l.drop i = x :: l.drop (i + 1) := by
  obtain ⟨hi, rfl⟩ := List.getElem?_eq_some_iff.1 h
  exact List.drop_eq_getElem_cons hi
section
variable {J : (Nat → Prop) → Nat → World → Prop} {W0 W : World} {B bw bf bv ba : Nat} {A : Option Addr} {F : List Seg} {c : Nat} {w : Win} {v : Vec} {i k : Nat} {from_ : Int} {at_ : Vec} {S : Nat → Prop}
theorem LowInv.skip (h : LowInv J W0 W B bw bf bv ba A F c w v i k from_ at_ S)
    (hJ : ∀ (S S' : Nat → Prop) k W W', J S k W → (∀ b, S' b → S b ∨ W.heap.size ≤ b) → Mod (fun b => False ∨ S b) W W' → J S' k W') {x : Seg} (hx : F[i]? = some x) (hs : x.at_ ≤ w.f ∨ w.t ≤ x.at_) {W' : World} (hb : Below W.heap.size W W') (hB : B ≤ W0.heap.size) :
    LowInv J W0 W' B bw bf bv ba A F c w v (i + 1) k from_ at_ S :=
  ⟨h.e.bl hb (Nat.le_trans hB h.z), h.a.bl hb, h.ba, fun b hS => by have := h.s b hS; have := hb.size; omega, hJ S S k W W' h.j (fun b h => .inl h) (Mod.of_bl hb), Nat.le_trans h.z hb.size, h.kl, by
    rw [h.d, drop_succ_get hx]
    show (if _ then _ else _) = _
    rw [if_pos hs]⟩
theorem LowInv.pass (h : LowInv J W0 W B bw bf bv ba A F c w v i k from_ at_ S)
    (hJ : ∀ (S S' : Nat → Prop) k W W', J S k W → (∀ b, S' b → S b ∨ W.heap.size ≤ b) → Mod (fun b => False ∨ S b) W W' → J S' k W') {x : Seg} (hx : F[i]? = some x) (hs : ¬ (x.at_ ≤ w.f ∨ w.t ≤ x.at_)) (hv : leV v.m v.c at_.m at_.c = true)
    {W' : World} (hM : Mod (fun b => b = ba) W W') (hbx : Bx W' ba [.int .i64 x.v.m, .int .i64 x.v.c]) (hP : ∀ b, b < B ∨ b = bw ∨ b = bf ∨ b = bv → b < W0.heap.size) (hB : B ≤ W0.heap.size) :
    LowInv J W0 W' B bw bf bv ba A F c w v (i + 1) k x.at_ x.v S :=
  ⟨h.e.mod hM (by rintro b rfl h'; have := hP _ h'; have := h.ba.1; omega) (Nat.le_trans hB h.z), hbx, h.ba, fun b hS => by have := h.s b hS; have := hM.size; omega,
    hJ S S k W W' h.j (fun b h => .inl h) (hM.wide fun b e => by subst e; exact .inr h.ba.2), Nat.le_trans h.z hM.size, h.kl, by
    rw [h.d, drop_succ_get hx]
    show (if _ then _ else _) = _
    rw [if_neg hs, if_pos hv]
    rfl⟩
theorem LowInv.grow_s (h : LowInv J W0 W B bw bf bv ba A F c w v i k from_ at_ S) {w1 : World} (hb : Below W.heap.size W w1) : ∀ b, grow S W w1 b → W0.heap.size ≤ b ∧ b < w1.heap.size := by
  rintro b (hS | ⟨h1, h2⟩)
  · have := h.s b hS; have := hb.size; omega
  · have := h.z; omega
theorem LowInv.after (h : LowInv J W0 W B bw bf bv ba A F c w v i k from_ at_ S) {Sb : Nat → Prop} (hSb : ∀ k, Sb k → ¬ (k < B ∨ k = bw ∨ k = bf ∨ k = bv) ∧ k < W0.heap.size)
    {w1 W3 W4 : World} (hb : Below W.heap.size W w1) (hM : Mod (fun b => Sb b ∨ (W0.heap.size ≤ b ∧ ¬ grow S W w1 b)) w1 W3) (hj : J (grow S W w1) (k + 1) W3) (hM4 : Mod (fun b => b = ba) W3 W4) {v' : Vec} (hbx : Bx W4 ba [.int .i64 v'.m, .int .i64 v'.c])
    (hJ : ∀ (S S' : Nat → Prop) k W W', J S k W → (∀ b, S' b → S b ∨ W.heap.size ≤ b) → Mod (fun b => False ∨ S b) W W' → J S' k W') (hP : ∀ b, b < B ∨ b = bw ∨ b = bf ∨ b = bv → b < W0.heap.size) (hB : B ≤ W0.heap.size)
    (hk : k < (lowF F w v).length) {r : Win} {t' : Int} (hd : (lowF F w v).drop k = r :: lowGo w v t' v' (F.drop (i + 1))) :
    LowInv J W0 W4 B bw bf bv ba A F c w v (i + 1) (k + 1) t' v' (grow S W w1) := by
  have s1 := hb.size
  have s2 := hM.size
  have s3 := hM4.size
  have hz := h.z
  refine ⟨((h.e.bl hb (by omega)).mod hM ?_ (by omega)).mod hM4 ?_ (by omega), hbx, ⟨h.ba.1, .inl h.ba.2⟩, fun b hb' => ?_, hJ _ _ _ W3 W4 hj (fun b h => .inl h) (hM4.wide fun b e => by subst e; exact .inr (.inl h.ba.2)), by omega, hk, ?_⟩
  · rintro b (h1 | h1) h2
    · exact (hSb b h1).1 h2
    · have := hP b h2; omega
  · rintro b rfl h2
    have := hP _ h2
    have := h.ba.1
    omega
  · have := h.grow_s hb b hb'
    omega
  · have h1 := congrArg (List.drop 1) hd
    rw [List.drop_drop, List.drop_succ_cons, List.drop_zero] at h1
    exact h1
end

set_option maxRecDepth 100000 in
set_option maxHeartbeats 20000000 in
theorem low1_iter (B bw bf bv : Nat) (A : Option Addr) (F : List Seg) (c : Nat) (w : Win) (v : Vec) (W0 : World) (hn : F.length ≤ 100000) (hE : LowEnv W0 B bw bf bv A F c w v) (hB : B ≤ W0.heap.size) :
    Iter Try.prog 54 #[.pointer (some ⟨bw, 0, none⟩), .pointer (some ⟨bf, 0, none⟩), .pointer (some ⟨bv, 0, none⟩)] (lowF F w v).length (encW (lowF F w v)) W0 (fun _ => False) (fun k => k < B ∨ k = bw ∨ k = bf ∨ k = bv) := by
  intro l Sb hSb J Jx h0 hJ hJx hY
  refine callsIn_of_wp Try.func54 rfl trivial ?_
  simp only [Try.ntmps54, List.size_toArray, List.length_cons, List.length_nil, Nat.reduceAdd, Nat.reduceSub, Array.replicate_succ, Array.replicate_zero, List.push_toArray, List.append_toArray, List.nil_append, List.cons_append]
  have hat := fun (W : World) (hW : Below W0.heap.size W0 W) => rle_at A F c w.f W (by omega) ((hE.r.more hB).bl hW)
  have hw : W0.cell? ⟨bw, 0, none⟩ = some (.int .i64 w.f) := hE.w.cell 0 rfl
  have hf : W0.cell? ⟨bf, 0, none⟩ = some (.slice A F.length c) := hE.f.cell 0 rfl
  have HE := Lib.hid (And.intro hE (And.intro h0 (And.intro hJ (And.intro hJx hY))))
  have l1 := hE.w.lt
  have l2 := hE.f.lt
  have l3 := hE.v.lt
  have hP : ∀ b, b < B ∨ b = bw ∨ b = bf ∨ b = bv → b < W0.heap.size := fun b h => by omega
  clear hE h0 hJ hJx hY
  gi_wp2
  gi_cut [5, 6] from 9 (fun s5 s6 wc => s5 = .int .i64 w.f ∧ ∃ ba S, s6 = .pointer (some ⟨ba, 0, none⟩) ∧ LowInv J W0 wc B bw bf bv ba A F c w v 0 0 w.f (atF F w.f) S)
  case first =>
    rename_i J0 K0 hr hm
    refine wpIn_wide.2 ?_
    go_region_held3 (fun W => W.cell? ⟨bw, 0, none⟩ = some (.int .i64 w.f) ∧ W.cell? ⟨bf, 0, none⟩ = some (.slice A F.length c) ∧ Below W0.heap.size W0 W) ((refine (fun hB' => ⟨bl_cell hB' hw, bl_cell hB' hf, hB'⟩ : Below W0.heap.size W0 _ → _) ?_; (repeat (first | exact bl_refl | assumption | apply bl_alloc | apply bl_drew | apply bl_drewN | (apply bl_set; (case hp => first | (simp; done) | (simp; omega))) | (apply bl_trans2; (case k => assumption))))))
      (first | (go_at_call 55; refine (hat _ (by (repeat (first | exact bl_refl | assumption | apply bl_alloc | apply bl_drew | apply bl_drewN | (apply bl_set; (case hp => first | (simp; done) | (simp; omega))) | (apply bl_trans2; (case k => assumption)))))).mono ?_; rintro e w1 ⟨rfl, hb1⟩; obtain ⟨hc1, hf1⟩ := bcell hb1; have hz1 := hb1.size; (try simp only [World.size_alloc, World.size_drew] at hz1)))
    · refine hm _ _ (Met.intro (hr _ _ ?_))
      repeat apply Exists.intro
      refine ⟨?_, rfl⟩
      exact ⟨rfl, _, _, rfl, LowInv.start HE.out.1 hB HE.out.2.1 (bl_alloc (bl_trans (bl_drew bl_refl) hb1)) hz1 (by simp) (Bx.new w1 [.int .i64 (atF F w.f).m, .int .i64 (atF F w.f).c] _)⟩
    · have b0 := ((Bx.new W0 [.int .i64 0, .int .i64 0] 51).drew.bl hb1)
      refine hm _ _ (Met.intro (hr _ _ ?_))
      repeat apply Exists.intro
      refine ⟨?_, rfl⟩
      exact ⟨rfl, _, _, rfl, LowInv.start HE.out.1 hB HE.out.2.1 (bl_set (bl_set (bl_trans (bl_drew (bl_alloc bl_refl)) hb1) (Nat.le_refl _)) (Nat.le_refl _)) (Nat.le_refl _) (by simp [World.setCell]; omega) ((b0.set 0 _).set 1 _)⟩
  case rest =>
    obtain ⟨rfl, ba, S, rfl, hI⟩ := hcut
    have f1 := hI.e.f.cell 0 rfl
    have HI := Lib.hid hI
    clear hI hat hw hf
    gi_wp2
    gi_loopw [5, 17] (fun s5 s17 W => ∃ (i k : Nat) (from_ : Int) (at_ : Vec) (S : Nat → Prop), i ≤ F.length ∧ s17 = .int .i64 i ∧ s5 = .int .i64 from_ ∧ LowInv J W0 W B bw bf bv ba A F c w v i k from_ at_ S) (fun _ s17 _ => F.length - (intOf s17).toNat)
    case atStart => exact ⟨0, 0, w.f, _, S, Nat.zero_le _, rfl, rfl, HI.out⟩
    case round =>
      clear HI f1
      obtain ⟨i, k, from_, ⟨am, ac⟩, S, hi, rfl, rfl, hI⟩ := hrel
      obtain ⟨a1, a2, a3, a4, a5⟩ := hI.a.two
      obtain ⟨b1, b2, b3, b4, b5⟩ := hI.e.w.two
      obtain ⟨d1, d2, d3, d4, d5⟩ := hI.e.v.two
      dsimp only at a1 a2
      have z := hI.z
      have hba := hI.ba
      by_cases hlt : i < F.length
      · have hx : F[i]? = some F[i] := List.getElem?_eq_getElem hlt
        obtain ⟨rb, ro, rfl, hrb, x0, x1, x2⟩ := hI.e.r.seg hx
        obtain ⟨x, hxe⟩ : ∃ x, F[i] = x := ⟨_, rfl⟩
        rw [hxe] at hx x0 x1 x2
        clear hxe
        have r1 : rb < wr.heap.size := by omega
        have HI := Lib.hid (And.intro hI hx)
        clear hI hx
        have hba1 := hba.1
        clear hba
        by_cases h1 : x.at_ ≤ w.f
        · gi_wp2
          go_roundw
          case rel => exact ⟨i + 1, k, from_, _, S, by omega, by go_num, rfl, HI.out.1.skip HE.out.2.2.1 HI.out.2 (.inl h1) (bl_alloc bl_refl) hB⟩
          case measure => simp [intOf]; omega
        · by_cases h2 : w.t ≤ x.at_
          · gi_wp2
            go_roundw
            case rel => exact ⟨i + 1, k, from_, _, S, by omega, by go_num, rfl, HI.out.1.skip HE.out.2.2.1 HI.out.2 (.inr h2) (bl_alloc bl_refl) hB⟩
            case measure => simp [intOf]; omega
          · have cl := fun W => vec_le v.m v.c am ac W
            cases hv : leV v.m v.c am ac with
            | true =>
              rw [hv] at cl
              have HV := Lib.hid hv
              clear hv
              have n1 : ¬ wr.heap.size = ba := by omega
              have n2 : ¬ ba = wr.heap.size := by omega
              gi_wp2_with (refine ⟨trivial, ?_⟩; gi_at_call 56; refine (callsIn_wide.2 (cl _)).mono ?_; clear cl; rintro e w1 ⟨rfl, hb1⟩; obtain ⟨hc1, hf1⟩ := bcell hb1; have hz1 := hb1.size; (try simp only [World.size_alloc] at hz1))
              refine ⟨fun _ h => (by cases h), ?_⟩
              gi_wp2
              gi_region
              gi_wp2
              go_roundw
              case rel =>
                have hb2 : Below wr.heap.size wr w1 := bl_trans (bl_alloc bl_refl) hb1
                exact ⟨i + 1, k, x.at_, x.v, S, by omega, by go_num, rfl, HI.out.1.pass HE.out.2.2.1 HI.out.2 (by omega) HV.out (Mod.drew (Mod.setC (S := fun b => b = ba) (Mod.setC (S := fun b => b = ba) (Mod.of_bl hb2) rfl) rfl)) ((((HI.out.1.a.bl hb2).set 0 _).set 1 _).drew) hP hB⟩
              case measure => simp [intOf]; omega
            | false =>
              rw [hv] at cl
              have HV := Lib.hid hv
              clear hv
              have n1 : ¬ wr.heap.size = ba := by omega
              have n2 : ¬ ba = wr.heap.size := by omega
              have hkd := HI.out.1.d
              rw [drop_succ_get HI.out.2] at hkd
              have hkd : (lowF F w v).drop k = ⟨from_, x.at_⟩ :: lowGo w v x.at_ x.v (F.drop (i + 1)) := hkd.trans (by
                show (if _ then _ else _) = _
                rw [if_neg (by omega), if_neg (by rw [HV.out]; simp)]
                rfl)
              have hkn : k < (lowF F w v).length := by
                have h1 := congrArg List.length hkd
                rw [List.length_drop, List.length_cons] at h1
                omega
              have henc : encW (lowF F w v) k = #[.agg #[.int .i64 from_, .int .i64 x.at_]] := by
                have h1 := congrArg (fun l => l[0]?) hkd
                simp only [List.getElem?_drop, Nat.add_zero, List.getElem?_cons_zero] at h1
                unfold encW
                rw [h1]
              have hYk := fun (W2 : World) (hj : J (grow S wr W2) k W2) (hs : ∀ b, grow S wr W2 b → W0.heap.size ≤ b ∧ b < W2.heap.size) => HE.out.2.2.2.2 (grow S wr W2) k W2 hkn hj hs
              rw [henc] at hYk
              have HK := Lib.hid (And.intro hkd hkn)
              clear hkd hkn henc
              have hJw := fun (w1 : World) (hb2 : Below wr.heap.size wr w1) => HE.out.2.2.1 S (grow S wr w1) k wr w1 HI.out.1.j (fun b h => h.imp id fun h => h.1) (Mod.of_bl hb2)
              have hSw := fun (w1 : World) (hb2 : Below wr.heap.size wr w1) => HI.out.1.grow_s hb2
              gi_wp2_with (refine ⟨trivial, ?_⟩; gi_at_call 56; refine (callsIn_wide.2 (cl _)).mono ?_; clear cl; rintro e w1 ⟨rfl, hb1⟩; have hb2 : Below wr.heap.size wr w1 := bl_trans (bl_alloc bl_refl) hb1; obtain ⟨fn, tmps, assign, body, hy, hR⟩ := hYk w1 (hJw w1 hb2) (hSw w1 hb2); clear hYk hJw hSw; obtain ⟨hc1, hf1⟩ := bcell hb1; have hz1 := hb1.size; (try simp only [World.size_alloc] at hz1))
              refine (RoundIn.any hR).mono ?_
              clear hR hy
              have bx := (Bx.new wr [.int .i64 x.at_, .int .i64 x.v.m, .int .i64 x.v.c] 62).bl hb1
              rintro e W3 (⟨rfl, hJ3, hM3⟩ | ⟨rfl, hJx3⟩)
              · have hq : ∀ b, grow S wr w1 b → ¬ (Sb b ∨ (W0.heap.size ≤ b ∧ ¬ grow S wr w1 b)) := fun b hg h => by
                  rcases h with h | h
                  · have := (hSb b h).2; have := (HI.out.1.grow_s hb2 b hg).1; omega
                  · exact h.2 hg
                have bx3 := bx.mod hM3 (hq _ (.inr ⟨Nat.le_refl _, by omega⟩))
                have ba3 := (HI.out.1.a.bl hb2).mod hM3 (hq _ (.inl HI.out.1.ba.2))
                obtain ⟨p1, p2, p3, p4, p5⟩ := ba3.two
                have y0 := bx3.cell 0 rfl
                have y1 := bx3.cell 1 rfl
                have y2 := bx3.cell 2 rfl
                dsimp only at p1 p2
                have H3 := Lib.hid (And.intro hJ3 (And.intro hM3 ba3))
                clear hJ3 hM3 bx bx3 ba3 hc1 hf1 hb1 hq a1 a2 a3 a4 b1 b2 b3 b4 d1 d2 d3 d4 x0 x1 x2
                gi_wp2
                gi_region
                gi_wp2
                go_roundw
                case rel =>
                  exact ⟨i + 1, k + 1, x.at_, x.v, grow S wr w1, by omega, by go_num, rfl, HI.out.1.after hSb hb2 H3.out.2.1 H3.out.1 (Mod.drew (Mod.setC (S := fun b => b = ba) (Mod.setC (S := fun b => b = ba) Mod.refl rfl) rfl)) (((H3.out.2.2.set 0 _).set 1 _).drew) HE.out.2.2.1 hP hB HK.out.2 HK.out.1⟩
                case measure => simp [intOf]; omega
              · gi_wp2
                refine bodyPost_ret (results_none rfl _ _ _) rfl ?_
                exact ⟨⟨_, rfl⟩, grow S wr w1, fun b h => (HI.out.1.grow_s hb2 b h).1, .inr ⟨_, hJx3⟩⟩
      · obtain rfl : i = F.length := by omega
        have HI := Lib.hid hI
        have hd := hI.d
        rw [List.drop_length] at hd
        clear hI
        have cl := fun W => vec_le v.m v.c am ac W
        cases hv : leV v.m v.c am ac with
        | true =>
          rw [hv] at cl
          have hd : (lowF F w v).drop k = [] := hd.trans (by show (if _ then _ else _) = _; rw [if_pos hv])
          have hkn : k = (lowF F w v).length := by
            have h1 := congrArg List.length hd
            have h2 := HI.out.kl
            rw [List.length_drop, List.length_nil] at h1
            omega
          have HK := Lib.hid hkn
          clear hv hd hkn
          gi_wp2_with (refine ⟨trivial, ?_⟩; gi_at_call 56; refine (callsIn_wide.2 (cl _)).mono ?_; clear cl; rintro e w1 ⟨rfl, hb1⟩)
          go_end0
          refine ⟨⟨_, rfl⟩, S, fun b h => (HI.out.s b h).1, .inl ?_⟩
          have h3 := HE.out.2.2.1 S S k wr w1 HI.out.j (fun b h => .inl h) (Mod.of_bl hb1)
          rwa [HK.out] at h3
        | false =>
          rw [hv] at cl
          have hd : (lowF F w v).drop k = [⟨from_, w.t⟩] := hd.trans (by show (if _ then _ else _) = _; rw [if_neg (by rw [hv]; simp)])
          have hkn : k + 1 = (lowF F w v).length := by
            have h1 := congrArg List.length hd
            rw [List.length_drop, List.length_cons, List.length_nil] at h1
            omega
          have henc : encW (lowF F w v) k = #[.agg #[.int .i64 from_, .int .i64 w.t]] := by
            have h1 := congrArg (fun l => l[0]?) hd
            simp only [List.getElem?_drop, Nat.add_zero, List.getElem?_cons_zero] at h1
            unfold encW
            rw [h1]
          have hYk := fun (W2 : World) (hj : J (grow S wr W2) k W2) (hs : ∀ b, grow S wr W2 b → W0.heap.size ≤ b ∧ b < W2.heap.size) => HE.out.2.2.2.2 (grow S wr W2) k W2 (by omega) hj hs
          rw [henc] at hYk
          have HK := Lib.hid hkn
          clear hv hd hkn henc
          have hJw := fun (w1 : World) (hb2 : Below wr.heap.size wr w1) => HE.out.2.2.1 S (grow S wr w1) k wr w1 HI.out.j (fun b h => h.imp id fun h => h.1) (Mod.of_bl hb2)
          have hSw := fun (w1 : World) (hb2 : Below wr.heap.size wr w1) => HI.out.grow_s hb2
          gi_wp2_with (refine ⟨trivial, ?_⟩; gi_at_call 56; refine (callsIn_wide.2 (cl _)).mono ?_; clear cl; rintro e w1 ⟨rfl, hb1⟩; obtain ⟨fn, tmps, assign, body, hy, hR⟩ := hYk w1 (hJw w1 hb1) (hSw w1 hb1); clear hYk hJw hSw; obtain ⟨hc1, hf1⟩ := bcell hb1; have hz1 := hb1.size)
          refine (RoundIn.any hR).mono ?_
          clear hR hy
          rintro e W3 (⟨rfl, hJ3, hM3⟩ | ⟨rfl, hJx3⟩)
          · gi_wp2
            go_end0
            refine ⟨⟨_, rfl⟩, grow S wr w1, fun b h => (HI.out.grow_s hb1 b h).1, .inl ?_⟩
            rwa [HK.out] at hJ3
          · gi_wp2
            go_end0
            exact ⟨⟨_, rfl⟩, grow S wr w1, fun b h => (HI.out.grow_s hb1 b h).1, .inr ⟨_, hJx3⟩⟩

end Go.Proofs.Ytdbogephaddbjaa
