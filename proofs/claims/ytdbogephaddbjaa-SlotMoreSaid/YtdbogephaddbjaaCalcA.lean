/- calc.both: the iterator over two functions at once. -/
import Derived.Test.YtdbogephaddbjaaRange
import Derived.BigRegionIn
import Derived.Sort.CutIn
import Derived.Tactics
import Derived.Tactics2
import Derived.WalkKit
import Derived.LoopTactic
import Derived.WalkLawsBesides
import Derived.WalkSpells
import Derived.Outline
import Derived.Deep.QuietTactic
import Derived.BigQuiet
import Derived.Deep.DeepCutAuto
import Derived.Deep.LoopGhost
import Derived.Deep.RegionHeld3
import Derived.RegionTactic
import Derived.KernelRfl
import Derived.Lib.Hide
set_option linter.unusedVariables false
set_option linter.unusedSimpArgs false
namespace Go.Proofs.Ytdbogephaddbjaa
open Go.RowKit
attribute [local go_sem] Oper.semAt_some

/-- Where two functions stand: both values, what is left of both. -/
structure Bst where
  a : Vec
  b : Vec
  f : List Seg
  g : List Seg
def bstep (s : Bst) : Int × Bst :=
  match s.f, s.g with
  | [], [] => (0, s)
  | x :: xs, [] => (x.at_, ⟨x.v, s.b, xs, []⟩)
  | [], y :: ys => (y.at_, ⟨s.a, y.v, [], ys⟩)
  | x :: xs, y :: ys => if x.at_ = y.at_ then (x.at_, ⟨x.v, y.v, xs, ys⟩) else if x.at_ < y.at_ then (x.at_, ⟨x.v, s.b, xs, y :: ys⟩) else (y.at_, ⟨s.a, y.v, x :: xs, ys⟩)
/-- All that both goes over from a state on: times, and both values. -/
def bothL : Nat → Bst → List (Int × Vec × Vec)
  | 0, _ => []
  | k + 1, s => if s.f = [] ∧ s.g = [] then [] else ((bstep s).1, (bstep s).2.a, (bstep s).2.b) :: bothL k (bstep s).2
def Bst.size (s : Bst) : Nat := s.f.length + s.g.length
theorem bstep_size (s : Bst) (h : ¬ (s.f = [] ∧ s.g = [])) : (bstep s).2.size + 1 ≤ s.size := by
  obtain ⟨a, b, f, g⟩ := s
  cases f with
  | nil => cases g with
    | nil => simp at h
    | cons y ys => simp [bstep, Bst.size]
  | cons x xs => cases g with
    | nil => simp [bstep, Bst.size]
    | cons y ys =>
      unfold bstep Bst.size
      dsimp only
      split
      · simp; omega
      · split <;> simp <;> omega
theorem bothL_fuel (k : Nat) : ∀ s : Bst, s.size ≤ k → bothL (k + 1) s = bothL k s := by
  induction k with
  | zero =>
    intro s hs
    have h : s.f = [] ∧ s.g = [] := by unfold Bst.size at hs; exact ⟨List.eq_nil_of_length_eq_zero (by omega), List.eq_nil_of_length_eq_zero (by omega)⟩
    simp [bothL, h]
  | succ k ih =>
    intro s hs
    show (if s.f = [] ∧ s.g = [] then [] else ((bstep s).1, (bstep s).2.a, (bstep s).2.b) :: bothL (k + 1) (bstep s).2) = (if s.f = [] ∧ s.g = [] then [] else ((bstep s).1, (bstep s).2.a, (bstep s).2.b) :: bothL k (bstep s).2)
    by_cases h : s.f = [] ∧ s.g = []
    · rw [if_pos h, if_pos h]
    · rw [if_neg h, if_neg h, ih _ (by have := bstep_size s h; omega)]
theorem bothL_more (s : Bst) : ∀ k, bothL (s.size + k) s = bothL s.size s
  | 0 => rfl
  | k + 1 => by
    rw [← bothL_more s k]
    exact bothL_fuel (s.size + k) s (by omega)
theorem bothL_step (s : Bst) (h : ¬ (s.f = [] ∧ s.g = [])) : bothL s.size s = ((bstep s).1, (bstep s).2.a, (bstep s).2.b) :: bothL (bstep s).2.size (bstep s).2 := by
  have hs := bstep_size s h
  obtain ⟨k, hk⟩ : ∃ k, s.size = (bstep s).2.size + k + 1 := ⟨s.size - (bstep s).2.size - 1, by omega⟩
  rw [hk]
  show (if s.f = [] ∧ s.g = [] then [] else ((bstep s).1, (bstep s).2.a, (bstep s).2.b) :: bothL ((bstep s).2.size + k) (bstep s).2) = _
  rw [if_neg h, bothL_more]
theorem bothL_end (s : Bst) (h : s.f = [] ∧ s.g = []) (k : Nat) : bothL k s = [] := by
  cases k with
  | zero => rfl
  | succ k => simp [bothL, h]
def bothF (f g : List Seg) : List (Int × Vec × Vec) := bothL (f.length + g.length) ⟨⟨0, 0⟩, ⟨0, 0⟩, f, g⟩
def encB (l : List (Int × Vec × Vec)) (k : Nat) : Array Value :=
  match l[k]? with
  | some x => #[.int .i64 x.1, .agg #[.int .i64 x.2.1.m, .int .i64 x.2.1.c, .int .i64 x.2.2.m, .int .i64 x.2.2.c]]
  | none => #[.int .i64 0, .agg #[.int .i64 0, .int .i64 0, .int .i64 0, .int .i64 0]]

/-- The address of a slice behind its first run. -/
def tailA (A : Option Addr) (cap : Nat) : Option Addr := if cap = 1 then A else A.map fun x => { block := x.block, off := x.off + 3 }
theorem Segs.tail {w : World} {B : Nat} {A : Option Addr} {x : Seg} {xs : List Seg} {cap : Nat} (h : Segs w B A (x :: xs)) (hc : xs.length + 1 ≤ cap) : Segs w B (tailA A cap) xs := fun hn => by
  obtain ⟨b, off, rfl, hb, hcell⟩ := h (by simp)
  have hl : 0 < xs.length := List.length_pos_iff.2 hn
  unfold tailA
  rw [if_neg (by omega)]
  refine ⟨b, off + 3, rfl, hb, fun i y hy j u hu => ?_⟩
  have := hcell (i + 1) y (by simpa using hy) j u hu
  rw [← this]
  congr 2
  omega
theorem size_seg : Try.prog.info? 62 = Try.prog.info? 62 := rfl
theorem cut1 (A : Option Addr) (n c : Nat) (h : n + 1 ≤ c) (w : World) : (Instr.slice 22 (.slice A (n + 1) c) (some (.int .i64 1)) none none).run Try.prog w = .ok (.slice (tailA A c) n (c - 1)) w := by
  obtain ⟨i0, hi, hz0, hz1, hz2⟩ := info_parts info_seg
  have h1 : ¬ ((n : Int) + 1 < 1) := by omega
  unfold tailA
  simp [h1, Instr.slice, Instr.sliceBounds, Instr.sliceBound, asIntOf, run_underlying Try.underlying22, sizeOf, typeInfo, hi, hz1, go_sem]

/-- What the iterator holds between two rounds. -/
structure BothInv (W0 W : World) (B bf bg bn : Nat) (s : Bst) (Af Ag : Option Addr) (cf cg : Nat) : Prop where
  f : Bx W bf [.slice Af s.f.length cf]
  g : Bx W bg [.slice Ag s.g.length cg]
  n : Bx W bn [.int .i64 s.a.m, .int .i64 s.a.c, .int .i64 s.b.m, .int .i64 s.b.c]
  rf : Segs W0 B Af s.f
  rg : Segs W0 B Ag s.g
  cf : s.f.length ≤ cf
  cg : s.g.length ≤ cg
  lo : Below B W0 W
theorem BothInv.mod {W0 W W' : World} {B bf bg bn : Nat} {s : Bst} {Af Ag : Option Addr} {cf cg N : Nat} (h : BothInv W0 W B bf bg bn s Af Ag cf cg) {Sb : Nat → Prop} (hM : Mod (fun b => Sb b ∨ N ≤ b) W W')
    (hSb : ∀ k, Sb k → ¬ (k < B ∨ k = bf ∨ k = bg ∨ k = bn)) (hBN : B ≤ N) (hf : bf < N) (hg : bg < N) (hn : bn < N) (hBW : B ≤ W.heap.size) : BothInv W0 W' B bf bg bn s Af Ag cf cg :=
  ⟨h.f.mod hM (fun e => by rcases e with e | e; exact hSb _ e (.inr (.inl rfl)); omega), h.g.mod hM (fun e => by rcases e with e | e; exact hSb _ e (.inr (.inr (.inl rfl))); omega), h.n.mod hM (fun e => by rcases e with e | e; exact hSb _ e (.inr (.inr (.inr rfl))); omega),
    h.rf, h.rg, h.cf, h.cg, h.lo.trans (hM.below hBW (fun k hk => by
      rcases hk with hk | hk
      · have := hSb _ hk; omega
      · omega))⟩
theorem wpIn_forget {F : Fence} {n : Nat} {P : Program} {c : Code} {Q : Exit → Act → World → Prop} {a : Act} {W : World} (R : World → Prop) (h : R W) (k : ∀ W', R W' → c.wpIn F n P Q a W') : c.wpIn F n P Q a W := k W h
theorem Mod.setC {S : Nat → Prop} {a w : World} {b o : Nat} {u : Value} (h : Mod S a w) (hs : S b) : Mod S a (w.setCell ⟨b, o, none⟩ u) := h.setCell (p := ⟨b, o, none⟩) hs u
theorem lo_set {B : Nat} {a w : World} {b o : Nat} {u : Value} (h : Below B a w) (hb : B ≤ b) : Below B a (w.setCell ⟨b, o, none⟩ u) := h.setCell (p := ⟨b, o, none⟩) hb u
theorem lo_drewN {B : Nat} {a w : World} {n : Nat} (h : Below B a w) : Below B a (w.drewN n) := ⟨h.os, h.tape, h.output, h.size, h.block⟩
theorem RoundIn.any {n m : Nat} {P : Program} {l : Nat} {f : FuncId} {tmps : Array Value} {assign body : Code} {w : World} {R : Ending → World → Prop} (h : RoundIn Fence.wide n P l f tmps assign body w R) : RoundIn Fence.wide m P l f tmps assign body w R :=
  ⟨h.1, fun c cs _ => h.2 c cs (room_wide _)⟩
theorem Bx.farC {w : World} {b c o : Nat} {vs : List Value} {u : Value} (h : Bx w b vs) (hp : b ≠ c) : Bx (w.setCell ⟨c, o, none⟩ u) b vs := h.far (p := ⟨c, o, none⟩) hp u

def lenCell (W : World) (b : Nat) : Nat := match W.cell? ⟨b, 0, none⟩ with | some (.slice _ n _) => n | _ => 0
theorem lenCell_eq {W : World} {b : Nat} {A : Option Addr} {n c : Nat} (h : W.cell? ⟨b, 0, none⟩ = some (.slice A n c)) : lenCell W b = n := by unfold lenCell; rw [h]

set_option maxRecDepth 100000 in
set_option maxHeartbeats 20000000 in
theorem both1_in (l Bf bf bg : Nat) (hne : bf ≠ bg) (hBf : Bf ≤ bf) (hBg : Bf ≤ bg) (F G : List Seg) (hn : F.length + G.length ≤ 1000000) (W0 : World) (hbf : bf < W0.heap.size) (hbg : bg < W0.heap.size)
    (Af Ag : Option Addr) (cf cg : Nat) (hInv : BothInv W0 (W0.alloc (.cells #[.int .i64 0, .int .i64 0, .int .i64 0, .int .i64 0] 106)) Bf bf bg W0.heap.size ⟨⟨0, 0⟩, ⟨0, 0⟩, F, G⟩ Af Ag cf cg)
    (Sb : Nat → Prop) (hSb : ∀ k, Sb k → ¬ (k < Bf ∨ k = bf ∨ k = bg ∨ k = W0.heap.size)) (J Jx : Nat → Nat → World → Prop)
    (h0 : ∀ N W, Mod (fun k => k = bf ∨ k = bg) W0 W → W0.heap.size ≤ N → N ≤ W.heap.size → J N 0 W)
    (hJ : ∀ N k W W', J N k W → Mod (fun b => (b = bf ∨ b = bg) ∨ (W0.heap.size ≤ b ∧ b < N)) W W' → J N k W')
    (hJx : ∀ N k W W', Jx N k W → Mod (fun b => (b = bf ∨ b = bg) ∨ (W0.heap.size ≤ b ∧ b < N)) W W' → Jx N k W')
    (hY : ∀ N k W, k < (bothF F G).length → J N k W → W0.heap.size ≤ N → N ≤ W.heap.size → YieldAt Fence.wide 3 Try.prog l (encB (bothF F G) k) W fun e W' =>
      (e = .returned (.bool true) ∧ J N (k + 1) W' ∧ Mod (fun b => Sb b ∨ N ≤ b) W W') ∨ (e = .returned (.bool false) ∧ Jx N (k + 1) W')) :
    CallsIn Fence.wide 3 Try.prog 82 #[.func (.yield l) #[] #[], .pointer (some ⟨bf, 0, none⟩), .pointer (some ⟨bg, 0, none⟩)] W0 fun e W' => (∃ v, e = .returned v) ∧ ∃ N, W0.heap.size ≤ N ∧ (J N (bothF F G).length W' ∨ ∃ k, Jx N k W') := by
  refine callsIn_of_wp Try.func82 rfl trivial ?_
  simp only [Try.ntmps82, List.size_toArray, List.length_cons, List.length_nil, Nat.reduceAdd, Nat.reduceSub, Array.replicate_succ, Array.replicate_zero, List.push_toArray, List.append_toArray, List.nil_append, List.cons_append]
  gi_wp2
  have hJ0 := h0 (W0.heap.size + 1) (W0.alloc (.cells #[.int .i64 0, .int .i64 0, .int .i64 0, .int .i64 0] 106)) (Mod.of_bl (bl_alloc bl_refl)) (by omega) (by simp)
  have HH := Lib.hid (And.intro hInv hJ0)
  clear hInv hJ0 h0
  gi_loopw [5] (fun _ W => ∃ (k : Nat) (s : Bst) (Af Ag : Option Addr) (cf cg : Nat), k ≤ (bothF F G).length ∧ (bothF F G).drop k = bothL s.size s ∧ s.size ≤ 1000000 ∧ BothInv W0 W Bf bf bg W0.heap.size s Af Ag cf cg ∧ J (W0.heap.size + 1) k W ∧ W0.heap.size + 1 ≤ W.heap.size) (fun _ W => lenCell W bf + lenCell W bg)
  case atStart => exact ⟨0, ⟨⟨0, 0⟩, ⟨0, 0⟩, F, G⟩, Af, Ag, cf, cg, Nat.zero_le _, rfl, hn, HH.out.1, HH.out.2, by simp⟩
  case round =>
    obtain ⟨k, s, Af, Ag, cf, cg, hkl, hdrop, hsz, hI, hJk, hsize⟩ := hrel
    obtain ⟨a, b, f, g⟩ := s
    have HI := Lib.hid hI
    obtain ⟨f1, f2, f3⟩ := hI.f.one
    obtain ⟨g1, g2, g3⟩ := hI.g.one
    obtain ⟨m0, m1, m2, m3⟩ : wr.cell? ⟨W0.heap.size, 0, none⟩ = some (.int .i64 a.m) ∧ wr.cell? ⟨W0.heap.size, 1, none⟩ = some (.int .i64 a.c) ∧ wr.cell? ⟨W0.heap.size, 2, none⟩ = some (.int .i64 b.m) ∧ wr.cell? ⟨W0.heap.size, 3, none⟩ = some (.int .i64 b.c) :=
      ⟨hI.n.cell 0 rfl, hI.n.cell 1 rfl, hI.n.cell 2 rfl, hI.n.cell 3 rfl⟩
    obtain ⟨z0, z1, z2, z3⟩ : wr.frozen? ⟨W0.heap.size, 0, none⟩ = false ∧ wr.frozen? ⟨W0.heap.size, 1, none⟩ = false ∧ wr.frozen? ⟨W0.heap.size, 2, none⟩ = false ∧ wr.frozen? ⟨W0.heap.size, 3, none⟩ = false :=
      ⟨hI.n.free 0 rfl, hI.n.free 1 rfl, hI.n.free 2 rfl, hI.n.free 3 rfl⟩
    have w1 : ¬ bf = W0.heap.size := by omega
    have w2 : ¬ bg = W0.heap.size := by omega
    have w3 : ¬ W0.heap.size = bf := by omega
    have w4 : ¬ W0.heap.size = bg := by omega
    have w5 : ¬ bf = bg := hne
    have w6 : ¬ bg = bf := fun e => hne e.symm
    have HD := Lib.hid hdrop
    have HJ := Lib.hid hJk
    clear hdrop hJk hI HH
    dsimp only at f1 g1
    cases f with
    | nil =>
      cases g with
      | nil =>
        simp only [List.length_nil] at f1 g1
        have hY' := Lib.hid hY
        clear hY
        gi_wp2
        go_end0
        refine ⟨⟨_, rfl⟩, W0.heap.size + 1, by omega, .inl ?_⟩
        have hd := HD.out
        rw [bothL_end _ ⟨rfl, rfl⟩] at hd
        have hl := congrArg List.length hd
        rw [List.length_drop, List.length_nil] at hl
        have : k = (bothF F G).length := by omega
        rw [← this]
        exact HJ.out
      | cons y ys =>
        obtain ⟨sb, so, rfl, hsb, y0, y1, y2⟩ := (HI.out.rg.below HI.out.lo).seg (i := 0) (x := y) rfl
        simp only [Nat.zero_mul, Nat.add_zero] at y0 y1 y2
        have hslG := cut1 (some ⟨sb, so, none⟩) ys.length cg HI.out.cg
        have v1 : ¬ sb = bf := by omega
        have v2 : ¬ sb = bg := by omega
        have v3 : ¬ sb = W0.heap.size := by omega
        have v4 : ¬ bf = sb := by omega
        have v5 : ¬ bg = sb := by omega
        have v6 : ¬ W0.heap.size = sb := by omega
        simp only [List.length_cons, List.length_nil] at f1 g1
        have tg1 : ((ys.length : Int) + 1 == 0) = false := by simp; omega
        have tg2 : (0 : Int) < (ys.length : Int) + 1 := by omega
        have HY := Lib.hid hY
        clear hY
        gi_wp2
        gi_quiet (fail)
        gi_wp2
        gi_region
        gi_upto_region 10 with fail
        have hbs : bstep (⟨a, b, [], y :: ys⟩ : Bst) = (y.at_, (⟨a, y.v, [], ys⟩ : Bst)) := by rfl
        have HB := Lib.hid hbs
        clear hbs
        refine wpIn_forget (fun W => BothInv W0 W Bf bf bg W0.heap.size (⟨a, y.v, [], ys⟩ : Bst) Af (tailA (some ⟨sb, so, none⟩) cg) cf (cg - 1) ∧ J (W0.heap.size + 1) k W ∧ W0.heap.size + 1 ≤ W.heap.size) ?_ ?_
        · obtain ⟨i1, i2, i3, i4, i5, i6, i7, i8⟩ := HI.out
          exact ⟨⟨((i1.drewN.farC w1).farC w1).farC w5, ((i2.drewN.farC w2).farC w2).set 0 _, ((i3.drewN.set 2 _).set 3 _).farC w4, i4, i5.tail i7, i6, (by have := i7; simp at this; simp; omega), (lo_set (lo_set (lo_set (lo_drewN i8) (by omega)) (by omega)) hBg)⟩, hJ _ _ wr _ HJ.out (((Mod.refl.drewN.setC (.inr ⟨Nat.le_refl _, Nat.lt_succ_self _⟩)).setC (.inr ⟨Nat.le_refl _, Nat.lt_succ_self _⟩)).setC (.inl (.inr rfl))), by simp [World.setCell]; omega⟩
        clear f1 f2 f3 g1 g2 g3 m0 m1 m2 m3 z0 z1 z2 z3 y0 y1 y2 hslG v1 v2 v3 v4 v5 v6 tg1 tg2
        rintro W2 ⟨hI2, hJ2, hsz2⟩
        have hst := bothL_step (⟨a, b, [], y :: ys⟩ : Bst) (by simp)
        rw [HB.out] at hst
        have hd := HD.out
        rw [hst] at hd
        have hkn : k < (bothF F G).length := by
          have h1 := congrArg List.length hd
          rw [List.length_drop, List.length_cons] at h1
          omega
        obtain ⟨fn, tmps, assign, body, hy, hR⟩ := HY.out (W0.heap.size + 1) k W2 hkn hJ2 (by omega) hsz2
        have henc : encB (bothF F G) k = #[.int .i64 y.at_, .agg #[.int .i64 (⟨a, y.v, [], ys⟩ : Bst).a.m, .int .i64 (⟨a, y.v, [], ys⟩ : Bst).a.c, .int .i64 (⟨a, y.v, [], ys⟩ : Bst).b.m, .int .i64 (⟨a, y.v, [], ys⟩ : Bst).b.c]] := by
          have h1 := congrArg (fun l => l[0]?) hd
          simp only [List.getElem?_drop, Nat.add_zero, List.getElem?_cons_zero] at h1
          unfold encB
          rw [h1]
        rw [henc] at hy
        dsimp only at hy
        obtain ⟨n1, n2, n3, n4⟩ : W2.cell? ⟨W0.heap.size, 0, none⟩ = some (.int .i64 (⟨a, y.v, [], ys⟩ : Bst).a.m) ∧ W2.cell? ⟨W0.heap.size, 1, none⟩ = some (.int .i64 (⟨a, y.v, [], ys⟩ : Bst).a.c) ∧ W2.cell? ⟨W0.heap.size, 2, none⟩ = some (.int .i64 (⟨a, y.v, [], ys⟩ : Bst).b.m) ∧ W2.cell? ⟨W0.heap.size, 3, none⟩ = some (.int .i64 (⟨a, y.v, [], ys⟩ : Bst).b.c) :=
          ⟨hI2.n.cell 0 rfl, hI2.n.cell 1 rfl, hI2.n.cell 2 rfl, hI2.n.cell 3 rfl⟩
        dsimp only at n1 n2 n3 n4
        have HI2 := Lib.hid (And.intro hI2 (And.intro hd (And.intro hkn (bstep_size (⟨a, b, [], y :: ys⟩ : Bst) (by simp)))))
        clear hI2 hJ2 henc hkn hst hd
        gi_wp2
        refine (RoundIn.any hR).mono ?_
        clear hR hy n1 n2 n3 n4
        rintro e W3 (⟨rfl, hJ3, hM3⟩ | ⟨rfl, hJx3⟩)
        · have hI3 : BothInv W0 W3 Bf bf bg W0.heap.size (⟨a, y.v, [], ys⟩ : Bst) Af (tailA (some ⟨sb, so, none⟩) cg) cf (cg - 1) := HI2.out.1.mod hM3 hSb (by omega) (by omega) (by omega) (by omega) (by omega)
          have HI3 := Lib.hid (And.intro hI3 (And.intro hJ3 hM3.size))
          clear hI3 hJ3 hM3
          gi_wp2
          go_roundw
          case rel =>
            refine ⟨k + 1, (⟨a, y.v, [], ys⟩ : Bst), Af, (tailA (some ⟨sb, so, none⟩) cg), cf, (cg - 1), HI2.out.2.2.1, ?_, ?_, HI3.out.1, HI3.out.2.1, Nat.le_trans hsz2 HI3.out.2.2⟩
            · have h1 := congrArg (List.drop 1) HI2.out.2.1
              rw [List.drop_drop, List.drop_succ_cons, List.drop_zero] at h1
              exact h1
            · have h1 := HI2.out.2.2.2
              rw [HB.out] at h1
              dsimp only at h1
              omega
          case measure =>
            rw [lenCell_eq HI3.out.1.f.one.1, lenCell_eq HI3.out.1.g.one.1, lenCell_eq HI.out.f.one.1, lenCell_eq HI.out.g.one.1]
            have h1 := HI2.out.2.2.2
            rw [HB.out] at h1
            simp only [Bst.size] at h1
            exact h1
        · gi_wp2
          refine bodyPost_ret (results_none rfl _ _ _) rfl ?_
          exact ⟨⟨_, rfl⟩, W0.heap.size + 1, by omega, .inr ⟨_, hJx3⟩⟩
    | cons x xs =>
      cases g with
      | nil =>
        obtain ⟨rb, ro, rfl, hrb, x0, x1, x2⟩ := (HI.out.rf.below HI.out.lo).seg (i := 0) (x := x) rfl
        simp only [Nat.zero_mul, Nat.add_zero] at x0 x1 x2
        have hslF := cut1 (some ⟨rb, ro, none⟩) xs.length cf HI.out.cf
        have r1 : ¬ rb = bf := by omega
        have r2 : ¬ rb = bg := by omega
        have r3 : ¬ rb = W0.heap.size := by omega
        have r4 : ¬ bf = rb := by omega
        have r5 : ¬ bg = rb := by omega
        have r6 : ¬ W0.heap.size = rb := by omega
        simp only [List.length_cons, List.length_nil] at f1 g1
        have tf2 : (0 : Int) < (xs.length : Int) + 1 := by omega
        have HY := Lib.hid hY
        clear hY
        gi_wp2
        gi_quiet (fail)
        gi_wp2
        gi_region
        gi_upto_region 10 with fail
        have hbs : bstep (⟨a, b, x :: xs, []⟩ : Bst) = (x.at_, (⟨x.v, b, xs, []⟩ : Bst)) := by rfl
        have HB := Lib.hid hbs
        clear hbs
        refine wpIn_forget (fun W => BothInv W0 W Bf bf bg W0.heap.size (⟨x.v, b, xs, []⟩ : Bst) (tailA (some ⟨rb, ro, none⟩) cf) Ag (cf - 1) cg ∧ J (W0.heap.size + 1) k W ∧ W0.heap.size + 1 ≤ W.heap.size) ?_ ?_
        · obtain ⟨i1, i2, i3, i4, i5, i6, i7, i8⟩ := HI.out
          exact ⟨⟨((i1.drewN.farC w1).farC w1).set 0 _, ((i2.drewN.farC w2).farC w2).farC w6, ((i3.drewN.set 0 _).set 1 _).farC w3, i4.tail i6, i5, (by have := i6; simp at this; simp; omega), i7, (lo_set (lo_set (lo_set (lo_drewN i8) (by omega)) (by omega)) hBf)⟩, hJ _ _ wr _ HJ.out (((Mod.refl.drewN.setC (.inr ⟨Nat.le_refl _, Nat.lt_succ_self _⟩)).setC (.inr ⟨Nat.le_refl _, Nat.lt_succ_self _⟩)).setC (.inl (.inl rfl))), by simp [World.setCell]; omega⟩
        clear f1 f2 f3 g1 g2 g3 m0 m1 m2 m3 z0 z1 z2 z3 x0 x1 x2 hslF r1 r2 r3 r4 r5 r6 tf2
        rintro W2 ⟨hI2, hJ2, hsz2⟩
        have hst := bothL_step (⟨a, b, x :: xs, []⟩ : Bst) (by simp)
        rw [HB.out] at hst
        have hd := HD.out
        rw [hst] at hd
        have hkn : k < (bothF F G).length := by
          have h1 := congrArg List.length hd
          rw [List.length_drop, List.length_cons] at h1
          omega
        obtain ⟨fn, tmps, assign, body, hy, hR⟩ := HY.out (W0.heap.size + 1) k W2 hkn hJ2 (by omega) hsz2
        have henc : encB (bothF F G) k = #[.int .i64 x.at_, .agg #[.int .i64 (⟨x.v, b, xs, []⟩ : Bst).a.m, .int .i64 (⟨x.v, b, xs, []⟩ : Bst).a.c, .int .i64 (⟨x.v, b, xs, []⟩ : Bst).b.m, .int .i64 (⟨x.v, b, xs, []⟩ : Bst).b.c]] := by
          have h1 := congrArg (fun l => l[0]?) hd
          simp only [List.getElem?_drop, Nat.add_zero, List.getElem?_cons_zero] at h1
          unfold encB
          rw [h1]
        rw [henc] at hy
        dsimp only at hy
        obtain ⟨n1, n2, n3, n4⟩ : W2.cell? ⟨W0.heap.size, 0, none⟩ = some (.int .i64 (⟨x.v, b, xs, []⟩ : Bst).a.m) ∧ W2.cell? ⟨W0.heap.size, 1, none⟩ = some (.int .i64 (⟨x.v, b, xs, []⟩ : Bst).a.c) ∧ W2.cell? ⟨W0.heap.size, 2, none⟩ = some (.int .i64 (⟨x.v, b, xs, []⟩ : Bst).b.m) ∧ W2.cell? ⟨W0.heap.size, 3, none⟩ = some (.int .i64 (⟨x.v, b, xs, []⟩ : Bst).b.c) :=
          ⟨hI2.n.cell 0 rfl, hI2.n.cell 1 rfl, hI2.n.cell 2 rfl, hI2.n.cell 3 rfl⟩
        dsimp only at n1 n2 n3 n4
        have HI2 := Lib.hid (And.intro hI2 (And.intro hd (And.intro hkn (bstep_size (⟨a, b, x :: xs, []⟩ : Bst) (by simp)))))
        clear hI2 hJ2 henc hkn hst hd
        gi_wp2
        refine (RoundIn.any hR).mono ?_
        clear hR hy n1 n2 n3 n4
        rintro e W3 (⟨rfl, hJ3, hM3⟩ | ⟨rfl, hJx3⟩)
        · have hI3 : BothInv W0 W3 Bf bf bg W0.heap.size (⟨x.v, b, xs, []⟩ : Bst) (tailA (some ⟨rb, ro, none⟩) cf) Ag (cf - 1) cg := HI2.out.1.mod hM3 hSb (by omega) (by omega) (by omega) (by omega) (by omega)
          have HI3 := Lib.hid (And.intro hI3 (And.intro hJ3 hM3.size))
          clear hI3 hJ3 hM3
          gi_wp2
          go_roundw
          case rel =>
            refine ⟨k + 1, (⟨x.v, b, xs, []⟩ : Bst), (tailA (some ⟨rb, ro, none⟩) cf), Ag, (cf - 1), cg, HI2.out.2.2.1, ?_, ?_, HI3.out.1, HI3.out.2.1, Nat.le_trans hsz2 HI3.out.2.2⟩
            · have h1 := congrArg (List.drop 1) HI2.out.2.1
              rw [List.drop_drop, List.drop_succ_cons, List.drop_zero] at h1
              exact h1
            · have h1 := HI2.out.2.2.2
              rw [HB.out] at h1
              dsimp only at h1
              omega
          case measure =>
            rw [lenCell_eq HI3.out.1.f.one.1, lenCell_eq HI3.out.1.g.one.1, lenCell_eq HI.out.f.one.1, lenCell_eq HI.out.g.one.1]
            have h1 := HI2.out.2.2.2
            rw [HB.out] at h1
            simp only [Bst.size] at h1
            exact h1
        · gi_wp2
          refine bodyPost_ret (results_none rfl _ _ _) rfl ?_
          exact ⟨⟨_, rfl⟩, W0.heap.size + 1, by omega, .inr ⟨_, hJx3⟩⟩
      | cons y ys =>
        rcases Int.lt_trichotomy x.at_ y.at_ with hat | hat | hat
        · skip
          have ta : x.at_ ≤ y.at_ := by omega
          have tb : (y.at_ == x.at_) = false := by simp; omega
          have tc : ¬ y.at_ = x.at_ := by omega
          obtain ⟨rb, ro, rfl, hrb, x0, x1, x2⟩ := (HI.out.rf.below HI.out.lo).seg (i := 0) (x := x) rfl
          simp only [Nat.zero_mul, Nat.add_zero] at x0 x1 x2
          have hslF := cut1 (some ⟨rb, ro, none⟩) xs.length cf HI.out.cf
          have r1 : ¬ rb = bf := by omega
          have r2 : ¬ rb = bg := by omega
          have r3 : ¬ rb = W0.heap.size := by omega
          have r4 : ¬ bf = rb := by omega
          have r5 : ¬ bg = rb := by omega
          have r6 : ¬ W0.heap.size = rb := by omega
          obtain ⟨sb, so, rfl, hsb, y0, y1, y2⟩ := (HI.out.rg.below HI.out.lo).seg (i := 0) (x := y) rfl
          simp only [Nat.zero_mul, Nat.add_zero] at y0 y1 y2
          have hslG := cut1 (some ⟨sb, so, none⟩) ys.length cg HI.out.cg
          have v1 : ¬ sb = bf := by omega
          have v2 : ¬ sb = bg := by omega
          have v3 : ¬ sb = W0.heap.size := by omega
          have v4 : ¬ bf = sb := by omega
          have v5 : ¬ bg = sb := by omega
          have v6 : ¬ W0.heap.size = sb := by omega
          simp only [List.length_cons, List.length_nil] at f1 g1
          have tf2 : (0 : Int) < (xs.length : Int) + 1 := by omega
          have tg1 : ((ys.length : Int) + 1 == 0) = false := by simp; omega
          have tg2 : (0 : Int) < (ys.length : Int) + 1 := by omega
          have HY := Lib.hid hY
          clear hY
          gi_wp2
          gi_quiet (fail)
          gi_wp2
          gi_region
          gi_upto_region 10 with fail
          have hbs : bstep (⟨a, b, x :: xs, y :: ys⟩ : Bst) = (x.at_, (⟨x.v, b, xs, y :: ys⟩ : Bst)) := by (simp only [bstep]; rw [if_neg (by omega), if_pos hat])
          have HB := Lib.hid hbs
          clear hbs
          refine wpIn_forget (fun W => BothInv W0 W Bf bf bg W0.heap.size (⟨x.v, b, xs, y :: ys⟩ : Bst) (tailA (some ⟨rb, ro, none⟩) cf) (some ⟨sb, so, none⟩) (cf - 1) cg ∧ J (W0.heap.size + 1) k W ∧ W0.heap.size + 1 ≤ W.heap.size) ?_ ?_
          · obtain ⟨i1, i2, i3, i4, i5, i6, i7, i8⟩ := HI.out
            exact ⟨⟨((i1.drewN.farC w1).farC w1).set 0 _, ((i2.drewN.farC w2).farC w2).farC w6, ((i3.drewN.set 0 _).set 1 _).farC w3, i4.tail i6, i5, (by have := i6; simp at this; simp; omega), i7, (lo_set (lo_set (lo_set (lo_drewN i8) (by omega)) (by omega)) hBf)⟩, hJ _ _ wr _ HJ.out (((Mod.refl.drewN.setC (.inr ⟨Nat.le_refl _, Nat.lt_succ_self _⟩)).setC (.inr ⟨Nat.le_refl _, Nat.lt_succ_self _⟩)).setC (.inl (.inl rfl))), by simp [World.setCell]; omega⟩
          clear f1 f2 f3 g1 g2 g3 m0 m1 m2 m3 z0 z1 z2 z3 x0 x1 x2 hslF r1 r2 r3 r4 r5 r6 tf2 y0 y1 y2 hslG v1 v2 v3 v4 v5 v6 tg1 tg2
          rintro W2 ⟨hI2, hJ2, hsz2⟩
          have hst := bothL_step (⟨a, b, x :: xs, y :: ys⟩ : Bst) (by simp)
          rw [HB.out] at hst
          have hd := HD.out
          rw [hst] at hd
          have hkn : k < (bothF F G).length := by
            have h1 := congrArg List.length hd
            rw [List.length_drop, List.length_cons] at h1
            omega
          obtain ⟨fn, tmps, assign, body, hy, hR⟩ := HY.out (W0.heap.size + 1) k W2 hkn hJ2 (by omega) hsz2
          have henc : encB (bothF F G) k = #[.int .i64 x.at_, .agg #[.int .i64 (⟨x.v, b, xs, y :: ys⟩ : Bst).a.m, .int .i64 (⟨x.v, b, xs, y :: ys⟩ : Bst).a.c, .int .i64 (⟨x.v, b, xs, y :: ys⟩ : Bst).b.m, .int .i64 (⟨x.v, b, xs, y :: ys⟩ : Bst).b.c]] := by
            have h1 := congrArg (fun l => l[0]?) hd
            simp only [List.getElem?_drop, Nat.add_zero, List.getElem?_cons_zero] at h1
            unfold encB
            rw [h1]
          rw [henc] at hy
          dsimp only at hy
          obtain ⟨n1, n2, n3, n4⟩ : W2.cell? ⟨W0.heap.size, 0, none⟩ = some (.int .i64 (⟨x.v, b, xs, y :: ys⟩ : Bst).a.m) ∧ W2.cell? ⟨W0.heap.size, 1, none⟩ = some (.int .i64 (⟨x.v, b, xs, y :: ys⟩ : Bst).a.c) ∧ W2.cell? ⟨W0.heap.size, 2, none⟩ = some (.int .i64 (⟨x.v, b, xs, y :: ys⟩ : Bst).b.m) ∧ W2.cell? ⟨W0.heap.size, 3, none⟩ = some (.int .i64 (⟨x.v, b, xs, y :: ys⟩ : Bst).b.c) :=
            ⟨hI2.n.cell 0 rfl, hI2.n.cell 1 rfl, hI2.n.cell 2 rfl, hI2.n.cell 3 rfl⟩
          dsimp only at n1 n2 n3 n4
          have HI2 := Lib.hid (And.intro hI2 (And.intro hd (And.intro hkn (bstep_size (⟨a, b, x :: xs, y :: ys⟩ : Bst) (by simp)))))
          clear hI2 hJ2 henc hkn hst hd
          gi_wp2
          refine (RoundIn.any hR).mono ?_
          clear hR hy n1 n2 n3 n4
          rintro e W3 (⟨rfl, hJ3, hM3⟩ | ⟨rfl, hJx3⟩)
          · have hI3 : BothInv W0 W3 Bf bf bg W0.heap.size (⟨x.v, b, xs, y :: ys⟩ : Bst) (tailA (some ⟨rb, ro, none⟩) cf) (some ⟨sb, so, none⟩) (cf - 1) cg := HI2.out.1.mod hM3 hSb (by omega) (by omega) (by omega) (by omega) (by omega)
            have HI3 := Lib.hid (And.intro hI3 (And.intro hJ3 hM3.size))
            clear hI3 hJ3 hM3
            gi_wp2
            go_roundw
            case rel =>
              refine ⟨k + 1, (⟨x.v, b, xs, y :: ys⟩ : Bst), (tailA (some ⟨rb, ro, none⟩) cf), (some ⟨sb, so, none⟩), (cf - 1), cg, HI2.out.2.2.1, ?_, ?_, HI3.out.1, HI3.out.2.1, Nat.le_trans hsz2 HI3.out.2.2⟩
              · have h1 := congrArg (List.drop 1) HI2.out.2.1
                rw [List.drop_drop, List.drop_succ_cons, List.drop_zero] at h1
                exact h1
              · have h1 := HI2.out.2.2.2
                rw [HB.out] at h1
                dsimp only at h1
                omega
            case measure =>
              rw [lenCell_eq HI3.out.1.f.one.1, lenCell_eq HI3.out.1.g.one.1, lenCell_eq HI.out.f.one.1, lenCell_eq HI.out.g.one.1]
              have h1 := HI2.out.2.2.2
              rw [HB.out] at h1
              simp only [Bst.size] at h1
              exact h1
          · gi_wp2
            refine bodyPost_ret (results_none rfl _ _ _) rfl ?_
            exact ⟨⟨_, rfl⟩, W0.heap.size + 1, by omega, .inr ⟨_, hJx3⟩⟩
        · skip
          have ta : x.at_ ≤ y.at_ := by omega
          have tb : (y.at_ == x.at_) = true := by simp; omega
          have Hat := Lib.hid hat
          clear hat
          obtain ⟨rb, ro, rfl, hrb, x0, x1, x2⟩ := (HI.out.rf.below HI.out.lo).seg (i := 0) (x := x) rfl
          simp only [Nat.zero_mul, Nat.add_zero] at x0 x1 x2
          have hslF := cut1 (some ⟨rb, ro, none⟩) xs.length cf HI.out.cf
          have r1 : ¬ rb = bf := by omega
          have r2 : ¬ rb = bg := by omega
          have r3 : ¬ rb = W0.heap.size := by omega
          have r4 : ¬ bf = rb := by omega
          have r5 : ¬ bg = rb := by omega
          have r6 : ¬ W0.heap.size = rb := by omega
          obtain ⟨sb, so, rfl, hsb, y0, y1, y2⟩ := (HI.out.rg.below HI.out.lo).seg (i := 0) (x := y) rfl
          simp only [Nat.zero_mul, Nat.add_zero] at y0 y1 y2
          have hslG := cut1 (some ⟨sb, so, none⟩) ys.length cg HI.out.cg
          have v1 : ¬ sb = bf := by omega
          have v2 : ¬ sb = bg := by omega
          have v3 : ¬ sb = W0.heap.size := by omega
          have v4 : ¬ bf = sb := by omega
          have v5 : ¬ bg = sb := by omega
          have v6 : ¬ W0.heap.size = sb := by omega
          simp only [List.length_cons, List.length_nil] at f1 g1
          have tf2 : (0 : Int) < (xs.length : Int) + 1 := by omega
          have tg1 : ((ys.length : Int) + 1 == 0) = false := by simp; omega
          have tg2 : (0 : Int) < (ys.length : Int) + 1 := by omega
          have HY := Lib.hid hY
          clear hY
          gi_wp2
          gi_quiet (fail)
          gi_wp2
          gi_region
          gi_wp2
          gi_region
          gi_upto_region 10 with fail
          have hbs : bstep (⟨a, b, x :: xs, y :: ys⟩ : Bst) = (x.at_, (⟨x.v, y.v, xs, ys⟩ : Bst)) := by (simp only [bstep]; rw [if_pos Hat.out])
          have HB := Lib.hid hbs
          clear hbs
          refine wpIn_forget (fun W => BothInv W0 W Bf bf bg W0.heap.size (⟨x.v, y.v, xs, ys⟩ : Bst) (tailA (some ⟨rb, ro, none⟩) cf) (tailA (some ⟨sb, so, none⟩) cg) (cf - 1) (cg - 1) ∧ J (W0.heap.size + 1) k W ∧ W0.heap.size + 1 ≤ W.heap.size) ?_ ?_
          · obtain ⟨i1, i2, i3, i4, i5, i6, i7, i8⟩ := HI.out
            exact ⟨⟨((((((i1.drewN.farC w1).farC w1).set 0 _).farC w1).farC w1).farC w5).drew, ((((((i2.drewN.farC w2).farC w2).farC w6).farC w2).farC w2).set 0 _).drew, ((((((i3.drewN.set 0 _).set 1 _).farC w3).set 2 _).set 3 _).farC w4).drew, i4.tail i6, i5.tail i7, (by have := i6; simp at this; simp; omega), (by have := i7; simp at this; simp; omega), ((lo_set (lo_set (lo_set ((lo_set (lo_set (lo_set (lo_drewN i8) (by omega)) (by omega)) hBf)) (by omega)) (by omega)) hBg)).drew⟩, hJ _ _ wr _ HJ.out (((((((Mod.refl.drewN.setC (.inr ⟨Nat.le_refl _, Nat.lt_succ_self _⟩)).setC (.inr ⟨Nat.le_refl _, Nat.lt_succ_self _⟩)).setC (.inl (.inl rfl))).setC (.inr ⟨Nat.le_refl _, Nat.lt_succ_self _⟩)).setC (.inr ⟨Nat.le_refl _, Nat.lt_succ_self _⟩)).setC (.inl (.inr rfl))).drew), by simp [World.setCell]; omega⟩
          clear f1 f2 f3 g1 g2 g3 m0 m1 m2 m3 z0 z1 z2 z3 x0 x1 x2 hslF r1 r2 r3 r4 r5 r6 tf2 y0 y1 y2 hslG v1 v2 v3 v4 v5 v6 tg1 tg2
          rintro W2 ⟨hI2, hJ2, hsz2⟩
          have hst := bothL_step (⟨a, b, x :: xs, y :: ys⟩ : Bst) (by simp)
          rw [HB.out] at hst
          have hd := HD.out
          rw [hst] at hd
          have hkn : k < (bothF F G).length := by
            have h1 := congrArg List.length hd
            rw [List.length_drop, List.length_cons] at h1
            omega
          obtain ⟨fn, tmps, assign, body, hy, hR⟩ := HY.out (W0.heap.size + 1) k W2 hkn hJ2 (by omega) hsz2
          have henc : encB (bothF F G) k = #[.int .i64 x.at_, .agg #[.int .i64 (⟨x.v, y.v, xs, ys⟩ : Bst).a.m, .int .i64 (⟨x.v, y.v, xs, ys⟩ : Bst).a.c, .int .i64 (⟨x.v, y.v, xs, ys⟩ : Bst).b.m, .int .i64 (⟨x.v, y.v, xs, ys⟩ : Bst).b.c]] := by
            have h1 := congrArg (fun l => l[0]?) hd
            simp only [List.getElem?_drop, Nat.add_zero, List.getElem?_cons_zero] at h1
            unfold encB
            rw [h1]
          rw [henc] at hy
          dsimp only at hy
          obtain ⟨n1, n2, n3, n4⟩ : W2.cell? ⟨W0.heap.size, 0, none⟩ = some (.int .i64 (⟨x.v, y.v, xs, ys⟩ : Bst).a.m) ∧ W2.cell? ⟨W0.heap.size, 1, none⟩ = some (.int .i64 (⟨x.v, y.v, xs, ys⟩ : Bst).a.c) ∧ W2.cell? ⟨W0.heap.size, 2, none⟩ = some (.int .i64 (⟨x.v, y.v, xs, ys⟩ : Bst).b.m) ∧ W2.cell? ⟨W0.heap.size, 3, none⟩ = some (.int .i64 (⟨x.v, y.v, xs, ys⟩ : Bst).b.c) :=
            ⟨hI2.n.cell 0 rfl, hI2.n.cell 1 rfl, hI2.n.cell 2 rfl, hI2.n.cell 3 rfl⟩
          dsimp only at n1 n2 n3 n4
          have HI2 := Lib.hid (And.intro hI2 (And.intro hd (And.intro hkn (bstep_size (⟨a, b, x :: xs, y :: ys⟩ : Bst) (by simp)))))
          clear hI2 hJ2 henc hkn hst hd
          gi_wp2
          refine (RoundIn.any hR).mono ?_
          clear hR hy n1 n2 n3 n4
          rintro e W3 (⟨rfl, hJ3, hM3⟩ | ⟨rfl, hJx3⟩)
          · have hI3 : BothInv W0 W3 Bf bf bg W0.heap.size (⟨x.v, y.v, xs, ys⟩ : Bst) (tailA (some ⟨rb, ro, none⟩) cf) (tailA (some ⟨sb, so, none⟩) cg) (cf - 1) (cg - 1) := HI2.out.1.mod hM3 hSb (by omega) (by omega) (by omega) (by omega) (by omega)
            have HI3 := Lib.hid (And.intro hI3 (And.intro hJ3 hM3.size))
            clear hI3 hJ3 hM3
            gi_wp2
            go_roundw
            case rel =>
              refine ⟨k + 1, (⟨x.v, y.v, xs, ys⟩ : Bst), (tailA (some ⟨rb, ro, none⟩) cf), (tailA (some ⟨sb, so, none⟩) cg), (cf - 1), (cg - 1), HI2.out.2.2.1, ?_, ?_, HI3.out.1, HI3.out.2.1, Nat.le_trans hsz2 HI3.out.2.2⟩
              · have h1 := congrArg (List.drop 1) HI2.out.2.1
                rw [List.drop_drop, List.drop_succ_cons, List.drop_zero] at h1
                exact h1
              · have h1 := HI2.out.2.2.2
                rw [HB.out] at h1
                dsimp only at h1
                omega
            case measure =>
              rw [lenCell_eq HI3.out.1.f.one.1, lenCell_eq HI3.out.1.g.one.1, lenCell_eq HI.out.f.one.1, lenCell_eq HI.out.g.one.1]
              have h1 := HI2.out.2.2.2
              rw [HB.out] at h1
              simp only [Bst.size] at h1
              exact h1
          · gi_wp2
            refine bodyPost_ret (results_none rfl _ _ _) rfl ?_
            exact ⟨⟨_, rfl⟩, W0.heap.size + 1, by omega, .inr ⟨_, hJx3⟩⟩
        · skip
          have ta : ¬ x.at_ ≤ y.at_ := by omega
          have tb : (x.at_ == y.at_) = false := by simp; omega
          have tc : ¬ x.at_ = y.at_ := by omega
          obtain ⟨rb, ro, rfl, hrb, x0, x1, x2⟩ := (HI.out.rf.below HI.out.lo).seg (i := 0) (x := x) rfl
          simp only [Nat.zero_mul, Nat.add_zero] at x0 x1 x2
          have hslF := cut1 (some ⟨rb, ro, none⟩) xs.length cf HI.out.cf
          have r1 : ¬ rb = bf := by omega
          have r2 : ¬ rb = bg := by omega
          have r3 : ¬ rb = W0.heap.size := by omega
          have r4 : ¬ bf = rb := by omega
          have r5 : ¬ bg = rb := by omega
          have r6 : ¬ W0.heap.size = rb := by omega
          obtain ⟨sb, so, rfl, hsb, y0, y1, y2⟩ := (HI.out.rg.below HI.out.lo).seg (i := 0) (x := y) rfl
          simp only [Nat.zero_mul, Nat.add_zero] at y0 y1 y2
          have hslG := cut1 (some ⟨sb, so, none⟩) ys.length cg HI.out.cg
          have v1 : ¬ sb = bf := by omega
          have v2 : ¬ sb = bg := by omega
          have v3 : ¬ sb = W0.heap.size := by omega
          have v4 : ¬ bf = sb := by omega
          have v5 : ¬ bg = sb := by omega
          have v6 : ¬ W0.heap.size = sb := by omega
          simp only [List.length_cons, List.length_nil] at f1 g1
          have tf2 : (0 : Int) < (xs.length : Int) + 1 := by omega
          have tg1 : ((ys.length : Int) + 1 == 0) = false := by simp; omega
          have tg2 : (0 : Int) < (ys.length : Int) + 1 := by omega
          have HY := Lib.hid hY
          clear hY
          gi_wp2
          gi_quiet (fail)
          gi_wp2
          gi_region
          gi_upto_region 10 with fail
          have hbs : bstep (⟨a, b, x :: xs, y :: ys⟩ : Bst) = (y.at_, (⟨a, y.v, x :: xs, ys⟩ : Bst)) := by (simp only [bstep]; rw [if_neg (by omega), if_neg (by omega)])
          have HB := Lib.hid hbs
          clear hbs
          refine wpIn_forget (fun W => BothInv W0 W Bf bf bg W0.heap.size (⟨a, y.v, x :: xs, ys⟩ : Bst) (some ⟨rb, ro, none⟩) (tailA (some ⟨sb, so, none⟩) cg) cf (cg - 1) ∧ J (W0.heap.size + 1) k W ∧ W0.heap.size + 1 ≤ W.heap.size) ?_ ?_
          · obtain ⟨i1, i2, i3, i4, i5, i6, i7, i8⟩ := HI.out
            exact ⟨⟨((i1.drewN.farC w1).farC w1).farC w5, ((i2.drewN.farC w2).farC w2).set 0 _, ((i3.drewN.set 2 _).set 3 _).farC w4, i4, i5.tail i7, i6, (by have := i7; simp at this; simp; omega), (lo_set (lo_set (lo_set (lo_drewN i8) (by omega)) (by omega)) hBg)⟩, hJ _ _ wr _ HJ.out (((Mod.refl.drewN.setC (.inr ⟨Nat.le_refl _, Nat.lt_succ_self _⟩)).setC (.inr ⟨Nat.le_refl _, Nat.lt_succ_self _⟩)).setC (.inl (.inr rfl))), by simp [World.setCell]; omega⟩
          clear f1 f2 f3 g1 g2 g3 m0 m1 m2 m3 z0 z1 z2 z3 x0 x1 x2 hslF r1 r2 r3 r4 r5 r6 tf2 y0 y1 y2 hslG v1 v2 v3 v4 v5 v6 tg1 tg2
          rintro W2 ⟨hI2, hJ2, hsz2⟩
          have hst := bothL_step (⟨a, b, x :: xs, y :: ys⟩ : Bst) (by simp)
          rw [HB.out] at hst
          have hd := HD.out
          rw [hst] at hd
          have hkn : k < (bothF F G).length := by
            have h1 := congrArg List.length hd
            rw [List.length_drop, List.length_cons] at h1
            omega
          obtain ⟨fn, tmps, assign, body, hy, hR⟩ := HY.out (W0.heap.size + 1) k W2 hkn hJ2 (by omega) hsz2
          have henc : encB (bothF F G) k = #[.int .i64 y.at_, .agg #[.int .i64 (⟨a, y.v, x :: xs, ys⟩ : Bst).a.m, .int .i64 (⟨a, y.v, x :: xs, ys⟩ : Bst).a.c, .int .i64 (⟨a, y.v, x :: xs, ys⟩ : Bst).b.m, .int .i64 (⟨a, y.v, x :: xs, ys⟩ : Bst).b.c]] := by
            have h1 := congrArg (fun l => l[0]?) hd
            simp only [List.getElem?_drop, Nat.add_zero, List.getElem?_cons_zero] at h1
            unfold encB
            rw [h1]
          rw [henc] at hy
          dsimp only at hy
          obtain ⟨n1, n2, n3, n4⟩ : W2.cell? ⟨W0.heap.size, 0, none⟩ = some (.int .i64 (⟨a, y.v, x :: xs, ys⟩ : Bst).a.m) ∧ W2.cell? ⟨W0.heap.size, 1, none⟩ = some (.int .i64 (⟨a, y.v, x :: xs, ys⟩ : Bst).a.c) ∧ W2.cell? ⟨W0.heap.size, 2, none⟩ = some (.int .i64 (⟨a, y.v, x :: xs, ys⟩ : Bst).b.m) ∧ W2.cell? ⟨W0.heap.size, 3, none⟩ = some (.int .i64 (⟨a, y.v, x :: xs, ys⟩ : Bst).b.c) :=
            ⟨hI2.n.cell 0 rfl, hI2.n.cell 1 rfl, hI2.n.cell 2 rfl, hI2.n.cell 3 rfl⟩
          dsimp only at n1 n2 n3 n4
          have HI2 := Lib.hid (And.intro hI2 (And.intro hd (And.intro hkn (bstep_size (⟨a, b, x :: xs, y :: ys⟩ : Bst) (by simp)))))
          clear hI2 hJ2 henc hkn hst hd
          gi_wp2
          refine (RoundIn.any hR).mono ?_
          clear hR hy n1 n2 n3 n4
          rintro e W3 (⟨rfl, hJ3, hM3⟩ | ⟨rfl, hJx3⟩)
          · have hI3 : BothInv W0 W3 Bf bf bg W0.heap.size (⟨a, y.v, x :: xs, ys⟩ : Bst) (some ⟨rb, ro, none⟩) (tailA (some ⟨sb, so, none⟩) cg) cf (cg - 1) := HI2.out.1.mod hM3 hSb (by omega) (by omega) (by omega) (by omega) (by omega)
            have HI3 := Lib.hid (And.intro hI3 (And.intro hJ3 hM3.size))
            clear hI3 hJ3 hM3
            gi_wp2
            go_roundw
            case rel =>
              refine ⟨k + 1, (⟨a, y.v, x :: xs, ys⟩ : Bst), (some ⟨rb, ro, none⟩), (tailA (some ⟨sb, so, none⟩) cg), cf, (cg - 1), HI2.out.2.2.1, ?_, ?_, HI3.out.1, HI3.out.2.1, Nat.le_trans hsz2 HI3.out.2.2⟩
              · have h1 := congrArg (List.drop 1) HI2.out.2.1
                rw [List.drop_drop, List.drop_succ_cons, List.drop_zero] at h1
                exact h1
              · have h1 := HI2.out.2.2.2
                rw [HB.out] at h1
                dsimp only at h1
                omega
            case measure =>
              rw [lenCell_eq HI3.out.1.f.one.1, lenCell_eq HI3.out.1.g.one.1, lenCell_eq HI.out.f.one.1, lenCell_eq HI.out.g.one.1]
              have h1 := HI2.out.2.2.2
              rw [HB.out] at h1
              simp only [Bst.size] at h1
              exact h1
          · gi_wp2
            refine bodyPost_ret (results_none rfl _ _ _) rfl ?_
            exact ⟨⟨_, rfl⟩, W0.heap.size + 1, by omega, .inr ⟨_, hJx3⟩⟩

end Go.Proofs.Ytdbogephaddbjaa
