/- Contracts of rle.May and what it calls; slices.IndexFunc and ContainsFunc at runs. -/
import Derived.Test.YtdbogephaddbjaaVec
import Derived.Tactics
import Derived.Tactics2
import Derived.WalkKit
import Derived.LoopTactic
import Derived.WalkLawsBesides
import Derived.WalkSpells
import Derived.Outline
import Derived.Deep.QuietTactic
import Derived.BigQuiet
import Derived.Deep.DeepCutAuto
import Derived.Deep.LoopGhost
import Derived.Deep.RegionHeld3
import Derived.RegionTactic
import Derived.KernelRfl
import Derived.Lib.Hide
set_option linter.unusedVariables false
set_option linter.unusedSimpArgs false
namespace Go.Proofs.Ytdbogephaddbjaa
open Go.RowKit

/-! ### Worlds in which some old blocks may have turned -/
structure Mod (S : Nat → Prop) (w w' : World) : Prop where
  os : w'.os = w.os
  tape : w'.tape = w.tape
  output : w'.output = w.output
  size : w.heap.size ≤ w'.heap.size
  block : ∀ k, k < w.heap.size → ¬ S k → w'.heap[k]? = w.heap[k]?
theorem Mod.refl {S : Nat → Prop} {w : World} : Mod S w w := ⟨rfl, rfl, rfl, Nat.le_refl _, fun _ _ _ => rfl⟩
theorem Mod.trans {S : Nat → Prop} {a b c : World} (h : Mod S a b) (k : Mod S b c) : Mod S a c :=
  ⟨k.os.trans h.os, k.tape.trans h.tape, k.output.trans h.output, Nat.le_trans h.size k.size, fun i hi hs => (k.block i (Nat.lt_of_lt_of_le hi h.size) hs).trans (h.block i hi hs)⟩
theorem Mod.of_bl {S : Nat → Prop} {w w' : World} (h : Below w.heap.size w w') : Mod S w w' := ⟨h.os, h.tape, h.output, h.size, fun k hk _ => h.block k hk⟩
theorem Mod.alloc {S : Nat → Prop} {a w : World} (h : Mod S a w) (o : Obj) : Mod S a (w.alloc o) := h.trans (Mod.of_bl (bl_alloc bl_refl))
theorem Mod.drew {S : Nat → Prop} {a w : World} (h : Mod S a w) : Mod S a w.drew := h.trans (Mod.of_bl (bl_drew bl_refl))
theorem Mod.drewN {S : Nat → Prop} {a w : World} {n : Nat} (h : Mod S a w) : Mod S a (w.drewN n) := h.trans (Mod.of_bl (bl_drewN bl_refl))
theorem Mod.setCell {S : Nat → Prop} {a w : World} (h : Mod S a w) {p : Addr} (hp : S p.block) (u : Value) : Mod S a (w.setCell p u) :=
  h.trans ⟨rfl, rfl, rfl, by simp [World.setCell], fun k _ hk => Below.heap_setCell _ _ _ _ (fun e => hk (by rw [e]; exact hp))⟩
theorem Mod.setCell_new {S : Nat → Prop} {a w : World} (h : Mod S a w) {p : Addr} (hp : a.heap.size ≤ p.block) (u : Value) : Mod S a (w.setCell p u) :=
  ⟨h.os, h.tape, h.output, by have := h.size; simp [World.setCell]; omega, fun k hk hs => (Below.heap_setCell _ _ _ _ (by omega)).trans (h.block k hk hs)⟩
theorem Mod.below {S : Nat → Prop} {N : Nat} {w w' : World} (h : Mod S w w') (hN : N ≤ w.heap.size) (hS : ∀ k, S k → N ≤ k) : Below N w w' :=
  ⟨h.os, h.tape, h.output, h.size, fun k hk => h.block k (by omega) (fun hs => by have := hS k hs; omega)⟩

/-! ### A run that may be -/
def inB (x : Seg) : Bool := fitB x.at_ && mayV x.v.m x.v.c

set_option maxHeartbeats 400000 in
theorem rle_in (t m c : Int) (w : World) :
    Calls Try.prog 69 #[.agg #[.int .i64 t, .int .i64 m, .int .i64 c]] w fun e w' => e = .returned (.bool (inB ⟨t, ⟨m, c⟩⟩)) ∧ Below w.heap.size w w' := by
  have hi : inB ⟨t, ⟨m, c⟩⟩ = (fitB t && mayV m c) := rfl
  by_cases h1 : -1125899906842624 ≤ t
  · by_cases h2 : t ≤ 1125899906842624
    · rw [fitB_in h1 h2, Bool.true_and] at hi
      rw [hi]; clear hi
      go_enter Try.func69, Try.ntmps69
      go_wp2_with (go_at_call 51; refine (vec_may _ _ _).mono ?_; rintro e w1 ⟨rfl, hb1⟩)
      go_ret
      exact ⟨rfl, by (repeat (first | exact bl_refl | assumption | apply bl_alloc | apply bl_drew | apply bl_drewN | (apply bl_set; (case hp => first | (simp; done) | (simp; omega))) | (apply bl_trans2; (case k => assumption))))⟩
    · rw [fitB_hi (by omega), Bool.false_and] at hi
      rw [hi]; clear hi
      go_enter Try.func69, Try.ntmps69
      go_wp2
      go_ret
      exact ⟨rfl, by (repeat (first | exact bl_refl | assumption | apply bl_alloc | apply bl_drew | apply bl_drewN | (apply bl_set; (case hp => first | (simp; done) | (simp; omega))) | (apply bl_trans2; (case k => assumption))))⟩
  · rw [fitB_lo (by omega), Bool.false_and] at hi
    rw [hi]; clear hi
    go_enter Try.func69, Try.ntmps69
    go_wp2
    go_ret
    exact ⟨rfl, by (repeat (first | exact bl_refl | assumption | apply bl_alloc | apply bl_drew | apply bl_drewN | (apply bl_set; (case hp => first | (simp; done) | (simp; omega))) | (apply bl_trans2; (case k => assumption))))⟩

/-- Is a run odd behind a last value and a last time? -/
def oddB (l : Vec) (a : Int) (x : Seg) : Bool := !inB x || (x.v == l) || decide (x.at_ ≤ a)

/-- The two variables of rle.May. -/
structure MayVars (w : World) (bl ba : Nat) (l : Vec) (a : Int) : Prop where
  m : w.cell? ⟨bl, 0, none⟩ = some (.int .i64 l.m)
  c : w.cell? ⟨bl, 1, none⟩ = some (.int .i64 l.c)
  a : w.cell? ⟨ba, 0, none⟩ = some (.int .i64 a)
  fm : w.frozen? ⟨bl, 0, none⟩ = false
  fc : w.frozen? ⟨bl, 1, none⟩ = false
  fa : w.frozen? ⟨ba, 0, none⟩ = false

theorem may1_end {w w1 : World} {bl ba : Nat} {l : Vec} {a : Int} {m c t : Int} (q5 : ¬ bl = ba) (q6 : ¬ ba = bl) (hB : Below w.heap.size w w1)
    (g1 : w1.cell? ⟨bl, 0, none⟩ = some (.int .i64 l.m)) (g2 : w1.cell? ⟨bl, 1, none⟩ = some (.int .i64 l.c)) (g3 : w1.cell? ⟨ba, 0, none⟩ = some (.int .i64 a))
    (k1 : w1.frozen? ⟨bl, 0, none⟩ = false) (k2 : w1.frozen? ⟨bl, 1, none⟩ = false) (k3 : w1.frozen? ⟨ba, 0, none⟩ = false) :
    MayVars (((w1.setCell ⟨bl, 0, none⟩ (.int .i64 m)).setCell ⟨bl, 1, none⟩ (.int .i64 c)).setCell ⟨ba, 0, none⟩ (.int .i64 t)).drew bl ba ⟨m, c⟩ t ∧
    Mod (fun k => k = bl ∨ k = ba) w (((w1.setCell ⟨bl, 0, none⟩ (.int .i64 m)).setCell ⟨bl, 1, none⟩ (.int .i64 c)).setCell ⟨ba, 0, none⟩ (.int .i64 t)).drew := by
  refine ⟨⟨?_, ?_, ?_, ?_, ?_, ?_⟩, (((Mod.of_bl hB).setCell (p := ⟨bl, 0, none⟩) (.inl rfl) _ |>.setCell (p := ⟨bl, 1, none⟩) (.inl rfl) _).setCell (p := ⟨ba, 0, none⟩) (.inr rfl) _).drew⟩
  · go_simp
  · go_simp
  · go_simp
  · simp [k1]
  · simp [k2]
  · simp [k3]

set_option maxHeartbeats 1000000 in
theorem may1 (bl ba : Nat) (hne : bl ≠ ba) (l : Vec) (a t m c : Int) (w : World) (hv : MayVars w bl ba l a) :
    Calls Try.prog 68 #[.agg #[.int .i64 t, .int .i64 m, .int .i64 c], .pointer (some ⟨bl, 0, none⟩), .pointer (some ⟨ba, 0, none⟩)] w fun e w' =>
      e = .returned (.bool (oddB l a ⟨t, ⟨m, c⟩⟩)) ∧ MayVars w' bl ba ⟨m, c⟩ t ∧ Mod (fun k => k = bl ∨ k = ba) w w' := by
  have ho : oddB l a ⟨t, ⟨m, c⟩⟩ = (!inB ⟨t, ⟨m, c⟩⟩ || (decide (m = l.m) && decide (c = l.c)) || decide (t ≤ a)) := by
    unfold oddB
    congr 2
    rw [Bool.eq_iff_iff]
    obtain ⟨l1, l2⟩ := l
    simp
  obtain ⟨h1, h2, h3, f1, f2, f3⟩ := hv
  have q1 : ¬ bl = w.heap.size := by have := lt_of_cell h1; simp at this; omega
  have q2 : ¬ ba = w.heap.size := by have := lt_of_cell h3; simp at this; omega
  have q3 : ¬ w.heap.size = bl := fun e => q1 e.symm
  have q4 : ¬ w.heap.size = ba := fun e => q2 e.symm
  have q5 : ¬ bl = ba := hne
  have q6 : ¬ ba = bl := fun e => hne e.symm
  clear hne
  by_cases hin : inB ⟨t, ⟨m, c⟩⟩ = true
  · obtain ⟨l1, l2⟩ := l
    dsimp only at h1 h2 ho
    by_cases he : m = l1
    · subst he
      by_cases hd : c = l2
      · subst hd
        have ho' : oddB ⟨m, c⟩ a ⟨t, ⟨m, c⟩⟩ = true := by rw [ho]; simp
        rw [ho']
        clear ho ho'
        go_enter Try.func68, Try.ntmps68
        go_wp2_with (go_at_call 69; refine (rle_in _ _ _ _).mono ?_; rintro e w1 ⟨rfl, hb1⟩; obtain ⟨hc1, hf1⟩ := bcell hb1; have hz1 := hb1.size; have hB : Below w.heap.size w w1 := (by (repeat (first | exact bl_refl | assumption | apply bl_alloc | apply bl_drew | apply bl_drewN | (apply bl_set; (case hp => first | (simp; done) | (simp; omega))) | (apply bl_trans2; (case k => assumption))))); have g1 := bl_cell hB h1; have g2 := bl_cell hB h2; have g3 := bl_cell hB h3; have k1 := bl_frozen hB h1 f1; have k2 := bl_frozen hB h2 f2; have k3 := bl_frozen hB h3 f3; clear h1 h2 h3 f1 f2 f3)
        go_region
        go_wp2
        go_ret
        exact ⟨rfl, may1_end (l := ⟨_, _⟩) q5 q6 hB g1 g2 g3 k1 k2 k3⟩
      · have e1 : (c == l2) = false := by simpa using hd
        have ho' : oddB ⟨m, l2⟩ a ⟨t, ⟨m, c⟩⟩ = decide (t ≤ a) := by rw [ho, hin]; simp [hd]
        rw [ho']
        clear ho ho' hd
        go_enter Try.func68, Try.ntmps68
        go_wp2_with (go_at_call 69; refine (rle_in _ _ _ _).mono ?_; rintro e w1 ⟨rfl, hb1⟩; obtain ⟨hc1, hf1⟩ := bcell hb1; have hz1 := hb1.size; have hB : Below w.heap.size w w1 := (by (repeat (first | exact bl_refl | assumption | apply bl_alloc | apply bl_drew | apply bl_drewN | (apply bl_set; (case hp => first | (simp; done) | (simp; omega))) | (apply bl_trans2; (case k => assumption))))); have g1 := bl_cell hB h1; have g2 := bl_cell hB h2; have g3 := bl_cell hB h3; have k1 := bl_frozen hB h1 f1; have k2 := bl_frozen hB h2 f2; have k3 := bl_frozen hB h3 f3; clear h1 h2 h3 f1 f2 f3)
        go_region
        go_wp2
        go_ret
        exact ⟨rfl, may1_end (l := ⟨_, _⟩) q5 q6 hB g1 g2 g3 k1 k2 k3⟩
    · have e1 : (m == l1) = false := by simpa using he
      have ho' : oddB ⟨l1, l2⟩ a ⟨t, ⟨m, c⟩⟩ = decide (t ≤ a) := by rw [ho, hin]; simp [he]
      rw [ho']
      clear ho ho' he
      go_enter Try.func68, Try.ntmps68
      go_wp2_with (go_at_call 69; refine (rle_in _ _ _ _).mono ?_; rintro e w1 ⟨rfl, hb1⟩; obtain ⟨hc1, hf1⟩ := bcell hb1; have hz1 := hb1.size; have hB : Below w.heap.size w w1 := (by (repeat (first | exact bl_refl | assumption | apply bl_alloc | apply bl_drew | apply bl_drewN | (apply bl_set; (case hp => first | (simp; done) | (simp; omega))) | (apply bl_trans2; (case k => assumption))))); have g1 := bl_cell hB h1; have g2 := bl_cell hB h2; have g3 := bl_cell hB h3; have k1 := bl_frozen hB h1 f1; have k2 := bl_frozen hB h2 f2; have k3 := bl_frozen hB h3 f3; clear h1 h2 h3 f1 f2 f3)
      go_region
      go_wp2
      go_ret
      exact ⟨rfl, may1_end (l := ⟨_, _⟩) q5 q6 hB g1 g2 g3 k1 k2 k3⟩
  · have hin' : inB ⟨t, ⟨m, c⟩⟩ = false := by simpa using hin
    rw [hin', Bool.not_false, Bool.true_or, Bool.true_or] at ho
    rw [ho]
    clear ho hin
    go_enter Try.func68, Try.ntmps68
    go_wp2_with (go_at_call 69; refine (rle_in _ _ _ _).mono ?_; rintro e w1 ⟨rfl, hb1⟩; obtain ⟨hc1, hf1⟩ := bcell hb1; have hz1 := hb1.size; have hB : Below w.heap.size w w1 := (by (repeat (first | exact bl_refl | assumption | apply bl_alloc | apply bl_drew | apply bl_drewN | (apply bl_set; (case hp => first | (simp; done) | (simp; omega))) | (apply bl_trans2; (case k => assumption))))); have g1 := bl_cell hB h1; have g2 := bl_cell hB h2; have g3 := bl_cell hB h3; have k1 := bl_frozen hB h1 f1; have k2 := bl_frozen hB h2 f2; have k3 := bl_frozen hB h3 f3; clear h1 h2 h3 f1 f2 f3)
    go_region
    go_wp2
    go_ret
    exact ⟨rfl, may1_end q5 q6 hB g1 g2 g3 k1 k2 k3⟩
theorem may1_enters : Enters Try.prog 68 := fun _ _ => by kernel_rfl

/-! ### slices.IndexFunc, ContainsFunc at runs -/
def IdxPost (n : Nat) (q : Nat → Bool) (J : Nat → World → Prop) (e : Ending) (w' : World) : Prop :=
  ∃ r : Int, e = .returned (.int .i64 r) ∧ decide (0 ≤ r) = (List.range n).any q ∧ ∃ k, J k w'
theorem IdxPost.no {n : Nat} {q : Nat → Bool} {J : Nat → World → Prop} {w' : World} (h : ((List.range n).all fun i => !q i) = true) (hJ : J n w') : IdxPost n q J (.returned (.int .i64 (-1))) w' := by
  refine ⟨-1, rfl, ?_, n, hJ⟩
  have : (List.range n).any q = false := by
    rw [List.any_eq_false]
    intro i hi
    rw [List.all_eq_true] at h
    have := h i hi
    simpa using this
  rw [this]
  rfl
theorem IdxPost.yes {n : Nat} {q : Nat → Bool} {J : Nat → World → Prop} {w' : World} {k : Nat} (hk : k < n) (h : q k = true) (hJ : J (k + 1) w') : IdxPost n q J (.returned (.int .i64 k)) w' := by
  refine ⟨k, rfl, ?_, k + 1, hJ⟩
  have : (List.range n).any q = true := by
    rw [List.any_eq_true]
    exact ⟨k, by simpa using hk, h⟩
  rw [this]
  simp

set_option maxHeartbeats 1000000 in
/-- slices.IndexFunc over runs, at a function value that keeps what J says. -/
theorem indexFunc_seg (A : Option Addr) (L : List Seg) (cap g : Nat) (caps : Array Value) (q : Nat → Bool) (J : Nat → World → Prop) (w : World) (hn : L.length ≤ 1000000)
    (hg : Enters Try.prog g)
    (hr : ∀ i W, J i W → Segs W W.heap.size A L)
    (hJ : J 0 w)
    (hs : ∀ i (x : Seg) W, L[i]? = some x → J i W → Calls Try.prog g (#[.agg #[.int .i64 x.at_, .int .i64 x.v.m, .int .i64 x.v.c]] ++ caps) W fun e W' => e = .returned (.bool (q i)) ∧ J (i + 1) W') :
    Calls Try.prog 89 #[.slice A L.length cap, .func (.func g) #[] caps] w (IdxPost L.length q J) := by
  unfold Enters at hg
  go_enter Try.func89, Try.ntmps89
  go_wp2
  go_loopw [5, 8] (fun _ i W => ∃ k : Nat, k ≤ L.length ∧ i = .int .i64 k ∧ J k W ∧ ((List.range k).all fun i => !q i) = true) (fun _ i _ => L.length - (intOf i).toNat)
  case atStart => exact ⟨0, Nat.zero_le _, rfl, hJ, rfl⟩
  case round =>
    obtain ⟨k, hk, rfl, hJk, hall⟩ := hrel
    have Hall := Lib.hid hall
    clear hall
    by_cases hlt : k < L.length
    · have hx : L[k]? = some L[k] := List.getElem?_eq_getElem hlt
      have hsk := hs k _ _ hx hJk
      obtain ⟨b, off, rfl, hb, hc0, hc1, hc2⟩ := (hr k _ hJk).seg hx
      generalize L[k] = x at *
      have Hx := Lib.hid hx
      clear hr hs hx hJ
      cases hq : q k with
      | true =>
        rw [hq] at hsk
        have Hq := Lib.hid hq
        clear hq
        go_wp2_with ((refine hsk.mono ?_; clear hsk; rintro e w1 ⟨rfl, hJ1⟩))
        go_ret
        exact IdxPost.yes hlt Hq.out hJ1
      | false =>
        rw [hq] at hsk
        have Hq := Lib.hid hq
        clear hq
        go_wp2_with ((refine hsk.mono ?_; clear hsk; rintro e w1 ⟨rfl, hJ1⟩))
        go_roundw
        case rel =>
          refine ⟨k + 1, by omega, by go_num, hJ1, ?_⟩
          rw [List.range_succ, List.all_append, Hall.out]
          simp [Hq.out]
        case measure => simp [intOf]; omega
    · clear hr hs hJ
      go_wp2
      go_ret
      obtain rfl : k = L.length := by omega
      exact IdxPost.no Hall.out hJk

def HasPost (n : Nat) (q : Nat → Bool) (J : Nat → World → Prop) (e : Ending) (w' : World) : Prop :=
  e = .returned (.bool ((List.range n).any q)) ∧ ∃ k, J k w'
theorem HasPost.mk {n : Nat} {q : Nat → Bool} {J : Nat → World → Prop} {w' : World} {r : Int} {k : Nat} (h : decide (0 ≤ r) = (List.range n).any q) (hJ : J k w') : HasPost n q J (.returned (.bool (decide (0 ≤ r)))) w' :=
  ⟨by rw [h], k, hJ⟩

set_option maxHeartbeats 1000000 in
theorem containsFunc_seg (A : Option Addr) (L : List Seg) (cap g : Nat) (caps : Array Value) (q : Nat → Bool) (J : Nat → World → Prop) (w : World) (hn : L.length ≤ 1000000)
    (hg : Enters Try.prog g)
    (hr : ∀ i W, J i W → Segs W W.heap.size A L)
    (hJ : J 0 w)
    (hs : ∀ i (x : Seg) W, L[i]? = some x → J i W → Calls Try.prog g (#[.agg #[.int .i64 x.at_, .int .i64 x.v.m, .int .i64 x.v.c]] ++ caps) W fun e W' => e = .returned (.bool (q i)) ∧ J (i + 1) W') :
    Calls Try.prog 67 #[.slice A L.length cap, .func (.func g) #[] caps] w (HasPost L.length q J) := by
  have hi := indexFunc_seg A L cap g caps q J w hn hg hr hJ hs
  clear hr hJ hs hg
  go_enter Try.func67, Try.ntmps67
  go_wp2_with (go_at_call 89; refine hi.mono ?_; clear hi; rintro e w1 ⟨r, rfl, hd, k, hJ1⟩; have Hd := Lib.hid hd; clear hd)
  go_ret
  exact HasPost.mk Hd.out hJ1

/-! ### rle.May -/
def mayGo (p : Seg) : List Seg → Bool
  | [] => true
  | x :: xs => !oddB p.v p.at_ x && mayGo x xs
def seg0 : Seg := ⟨-1125899906842625, ⟨0, 0⟩⟩
/-- A function is canonical. -/
def mayF (L : List Seg) : Bool := mayGo seg0 L
def prevS (p : Seg) (L : List Seg) (i : Nat) : Seg := if i = 0 then p else L.getD (i - 1) p
def oddAt (p : Seg) (L : List Seg) (i : Nat) : Bool := oddB (prevS p L i).v (prevS p L i).at_ (L.getD i p)
theorem any_odd (L : List Seg) : ∀ p : Seg, (List.range L.length).any (oddAt p L) = !mayGo p L := by
  induction L with
  | nil => intro p; rfl
  | cons x xs ih =>
    intro p
    have h0 : oddAt p (x :: xs) 0 = oddB p.v p.at_ x := by simp [oddAt, prevS]
    have h1 : ∀ i ∈ List.range xs.length, oddAt p (x :: xs) (i + 1) = oddAt x xs i := by
      intro i hi
      have hi' : i < xs.length := by simpa using hi
      have e1 : prevS p (x :: xs) (i + 1) = prevS x xs i := by
        unfold prevS
        rcases Nat.eq_zero_or_pos i with h | h
        · subst h; simp
        · rw [if_neg (by omega), if_neg (by omega)]
          obtain ⟨j, rfl⟩ : ∃ j, i = j + 1 := ⟨i - 1, by omega⟩
          simp [List.getD_eq_getElem?_getD, List.getElem?_eq_getElem (by omega : j < xs.length)]
      unfold oddAt
      rw [e1]
      simp [List.getD_eq_getElem?_getD, List.getElem?_eq_getElem hi']
    rw [List.length_cons, List.range_succ_eq_map, List.any_cons, h0, List.any_map]
    have : (List.range xs.length).any (oddAt p (x :: xs) ∘ Nat.succ) = (List.range xs.length).any (oddAt x xs) := by
      rw [Bool.eq_iff_iff, List.any_eq_true, List.any_eq_true]
      constructor
      · rintro ⟨i, hi, h⟩; exact ⟨i, hi, by rw [← h1 i hi]; exact h⟩
      · rintro ⟨i, hi, h⟩; exact ⟨i, hi, by show oddAt p (x :: xs) (i + 1) = true; rw [h1 i hi]; exact h⟩
    rw [this, ih x]
    simp [mayGo]

set_option maxHeartbeats 1000000 in
/-- rle.May: whether a function is canonical. -/
theorem rle_may (A : Option Addr) (L : List Seg) (cap : Nat) (w : World) (hn : L.length ≤ 1000000) (hr : Segs w w.heap.size A L) :
    Calls Try.prog 39 #[.slice A L.length cap] w fun e w' => e = .returned (.bool (mayF L)) ∧ Below w.heap.size w w' := by
  have hm : (List.range L.length).any (oddAt seg0 L) = !mayF L := any_odd L seg0
  have Hm := Lib.hid hm
  clear hm
  go_enter Try.func39, Try.ntmps39
  go_wp2_with fail
  refine (containsFunc_seg A L cap 68 _ (oddAt seg0 L) (fun i W => MayVars W w.heap.size (w.heap.size + 1) (prevS seg0 L i).v (prevS seg0 L i).at_ ∧ Below w.heap.size w W) _ hn may1_enters ?_ ?_ ?_).mono ?_
  · rintro i W ⟨_, hb⟩
    exact hr.bl hb
  · refine ⟨⟨?_, ?_, ?_, ?_, ?_, ?_⟩, by (repeat (first | exact bl_refl | assumption | apply bl_alloc | apply bl_drew | apply bl_drewN | (apply bl_set; (case hp => first | (simp; done) | (simp; omega))) | (apply bl_trans2; (case k => assumption))))⟩ <;> simp [prevS, seg0]
  · rintro i x W hx ⟨hv, hb⟩
    have hi : i < L.length := (List.getElem?_eq_some_iff.1 hx).1
    refine (may1 _ _ (by omega) _ _ _ _ _ _ hv).mono ?_
    rintro e W' ⟨rfl, hv', hmod⟩
    have hxe : L.getD i seg0 = x := by rw [List.getD_eq_getElem?_getD, hx]; rfl
    have hp : prevS seg0 L (i + 1) = x := by unfold prevS; rw [if_neg (by omega)]; exact hxe
    refine ⟨ret_bool ?_, ?_, hb.trans (hmod.below hb.size (by omega))⟩
    · unfold oddAt; rw [hxe]
    · rw [hp]; exact hv'
  · rintro e w1 ⟨rfl, k, _, hb⟩
    go_wp2
    go_ret
    refine ⟨ret_bool ?_, hb⟩
    rw [Hm.out]
    simp

end Go.Proofs.Ytdbogephaddbjaa
