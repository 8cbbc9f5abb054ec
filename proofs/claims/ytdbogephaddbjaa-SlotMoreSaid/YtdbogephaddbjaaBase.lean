/- Words that all texts of this seat use: vectors, runs, windows, legs; slices that read as lists; small lemmas on worlds. -/
import Derived.Test.YtdbogephaddbjaaProg
import Derived.Tactics
import Derived.Tactics2
import Derived.WalkKit
import Derived.LoopTactic
import Derived.WalkLawsBesides
import Derived.WalkSpells
import Derived.Outline
import Derived.Deep.QuietTactic
import Derived.BigQuiet
import Derived.Deep.DeepCutAuto
import Derived.Deep.LoopGhost
import Derived.Deep.RegionHeld3
import Derived.RegionTactic
import Derived.KernelRfl
import Derived.Lib.Hide
set_option linter.unusedVariables false
set_option linter.unusedSimpArgs false
namespace Go.Proofs.Ytdbogephaddbjaa
open Go.RowKit

/-- Calling function g enters it. -/
def Enters (P : Program) (g : Nat) : Prop := ∀ args W, (callFunc g args).run P W = .ok (.enter g args) W

theorem ret_bool {a b : Bool} (h : a = b) : Ending.returned (.bool a) = .returned (.bool b) := by rw [h]
theorem ret_int {k : IntKind} {a b : Int} (h : a = b) : Ending.returned (.int k a) = .returned (.int k b) := by rw [h]

/-! ### Worlds -/
theorem bl_refl {w : World} : Below w.heap.size w w := Below.refl _ _
theorem bl_alloc {w a : World} {o : Obj} (h : Below w.heap.size w a) : Below w.heap.size w (a.alloc o) := h.alloc h.size o
theorem bl_drew {w a : World} (h : Below w.heap.size w a) : Below w.heap.size w a.drew := h.drew
theorem bl_drewN {w a : World} {n : Nat} (h : Below w.heap.size w a) : Below w.heap.size w (a.drewN n) := ⟨h.os, h.tape, h.output, h.size, h.block⟩
theorem bl_set {w a : World} {p : Addr} {v : Value} (h : Below w.heap.size w a) (hp : w.heap.size ≤ p.block) : Below w.heap.size w (a.setCell p v) := h.setCell hp v
theorem bl_trans {w a b : World} (h : Below w.heap.size w a) (k : Below a.heap.size a b) : Below w.heap.size w b := h.trans (k.mono h.size)
theorem bl_trans2 {w a b : World} (k : Below a.heap.size a b) (h : Below w.heap.size w a) : Below w.heap.size w b := bl_trans h k
theorem bl_cell {w a : World} (h : Below w.heap.size w a) {p : Addr} {v : Value} (hc : w.cell? p = some v) : a.cell? p = some v := by
  rw [h.cell, hc]
  unfold World.cell? at hc
  split at hc
  · rename_i hb; exact (Array.getElem?_eq_some_iff.1 hb).1
  · cases hc

theorem lt_of_cell {w : World} {p : Addr} {v : Value} (hc : w.cell? p = some v) : p.block < w.heap.size := by
  unfold World.cell? at hc
  split at hc
  · rename_i hb; exact (Array.getElem?_eq_some_iff.1 hb).1
  · cases hc
theorem bl_frozen {w a : World} (h : Below w.heap.size w a) {p : Addr} {v : Value} (hc : w.cell? p = some v) (hf : w.frozen? p = false) : a.frozen? p = false := by
  rw [h.frozen (lt_of_cell hc), hf]
theorem bcell {W w1 : World} (hb : Below W.heap.size W w1) : (∀ b o, b < W.heap.size → w1.cell? ⟨b, o, none⟩ = W.cell? ⟨b, o, none⟩) ∧ (∀ b o, b < W.heap.size → w1.frozen? ⟨b, o, none⟩ = W.frozen? ⟨b, o, none⟩) :=
  ⟨fun b o h => hb.cell (p := ⟨b, o, none⟩) h, fun b o h => hb.frozen (p := ⟨b, o, none⟩) h⟩

/-- A block whose first cells are vs, which may be written. -/
def Bx (w : World) (b : Nat) (vs : List Value) : Prop := ∀ i v, vs[i]? = some v → w.cell? ⟨b, i, none⟩ = some v ∧ w.frozen? ⟨b, i, none⟩ = false
section
variable {w w' : World} {b : Nat} {vs : List Value}
theorem Bx.cell (h : Bx w b vs) (i : Nat) {v : Value} (hv : vs[i]? = some v) : w.cell? ⟨b, i, none⟩ = some v := (h i v hv).1
theorem Bx.free (h : Bx w b vs) (i : Nat) {v : Value} (hv : vs[i]? = some v) : w.frozen? ⟨b, i, none⟩ = false := (h i v hv).2
theorem Bx.lt {v : Value} (h : Bx w b (v :: vs)) : b < w.heap.size := by have := lt_of_cell (h.cell 0 rfl); simpa using this
theorem Bx.bl (h : Bx w b vs) (hb : Below w.heap.size w w') : Bx w' b vs := fun i v hv => ⟨bl_cell hb (h i v hv).1, bl_frozen hb (h i v hv).1 (h i v hv).2⟩
theorem Bx.alloc (h : Bx w b vs) (o : Obj) : Bx (w.alloc o) b vs := h.bl (bl_alloc bl_refl)
theorem Bx.drew (h : Bx w b vs) : Bx w.drew b vs := h.bl (bl_drew bl_refl)
theorem Bx.drewN {n : Nat} (h : Bx w b vs) : Bx (w.drewN n) b vs := h.bl (bl_drewN bl_refl)
theorem Bx.far (h : Bx w b vs) {p : Addr} (hp : b ≠ p.block) (u : Value) : Bx (w.setCell p u) b vs := fun i v hv =>
  ⟨(World.cell?_setCell_other w p ⟨b, i, none⟩ u (fun e => hp (by rw [e]))).trans (h i v hv).1, by rw [World.frozen?_setCell]; exact (h i v hv).2⟩
theorem Bx.set (h : Bx w b vs) (i : Nat) (u : Value) : Bx (w.setCell ⟨b, i, none⟩ u) b (vs.set i u) := fun j v hv => by
  rw [World.frozen?_setCell]
  by_cases e : i = j
  · subst e
    rw [List.getElem?_set] at hv
    simp at hv
    obtain ⟨hl, rfl⟩ := hv
    have h0 := h i _ (List.getElem?_eq_getElem hl)
    exact ⟨World.cell?_setCell_same' _ _ _ (by rw [h0.1]; rfl), h0.2⟩
  · rw [List.getElem?_set_ne e] at hv
    exact ⟨(World.cell?_setCell_other w ⟨b, i, none⟩ ⟨b, j, none⟩ u (fun e' => by injection e' with _ e'; exact e e')).trans (h j v hv).1, (h j v hv).2⟩
theorem Bx.new (w : World) (l : List Value) (t : TypeId) : Bx (w.alloc (.cells l.toArray t)) w.heap.size l := fun i v hv => by
  have hh : (w.alloc (.cells l.toArray t)).heap[w.heap.size]? = some (.cells l.toArray t (0, 0)) := heap_alloc_new w _
  refine ⟨?_, ?_⟩
  · unfold World.cell?; dsimp only; rw [hh]; simpa using hv
  · unfold World.frozen?; dsimp only; rw [hh]; simp
theorem Bx.below {N : Nat} (h : Bx w b vs) (hb : Below N w w') (hN : b < N) : Bx w' b vs := fun i v hv =>
  ⟨(hb.cell (p := ⟨b, i, none⟩) hN).trans (h i v hv).1, (hb.frozen (p := ⟨b, i, none⟩) hN).trans (h i v hv).2⟩
end
theorem Bx.one {w : World} {b : Nat} {v : Value} (h : Bx w b [v]) : w.cell? ⟨b, 0, none⟩ = some v ∧ w.frozen? ⟨b, 0, none⟩ = false ∧ b < w.heap.size := ⟨h.cell 0 rfl, h.free 0 rfl, h.lt⟩
theorem Bx.two {w : World} {b : Nat} {v u : Value} (h : Bx w b [v, u]) : w.cell? ⟨b, 0, none⟩ = some v ∧ w.cell? ⟨b, 1, none⟩ = some u ∧ w.frozen? ⟨b, 0, none⟩ = false ∧ w.frozen? ⟨b, 1, none⟩ = false ∧ b < w.heap.size :=
  ⟨h.cell 0 rfl, h.cell 1 rfl, h.free 0 rfl, h.free 1 rfl, h.lt⟩

/-! ### The data -/
structure Vec where
  m : Int
  c : Int
  deriving DecidableEq
structure Seg where
  at_ : Int
  v : Vec
  deriving DecidableEq
structure Win where
  f : Int
  t : Int
  deriving DecidableEq
structure Leg where
  d : Int
  v : Vec
  deriving DecidableEq

def Vec.val (v : Vec) : Value := .agg #[.int .i64 v.m, .int .i64 v.c]
def Seg.val (x : Seg) : Value := .agg #[.int .i64 x.at_, .int .i64 x.v.m, .int .i64 x.v.c]
def Win.val (x : Win) : Value := .agg #[.int .i64 x.f, .int .i64 x.t]
def Leg.val (x : Leg) : Value := .agg #[.int .i64 x.d, .int .i64 x.v.m, .int .i64 x.v.c]
def Seg.cells (x : Seg) : List Value := [.int .i64 x.at_, .int .i64 x.v.m, .int .i64 x.v.c]
def Win.cells (x : Win) : List Value := [.int .i64 x.f, .int .i64 x.t]
def Leg.cells (x : Leg) : List Value := [.int .i64 x.d, .int .i64 x.v.m, .int .i64 x.v.c]

/-- A slice of structs of k cells each at address A reads as the list L, its cells below block B. -/
def Rows {α : Type} (k : Nat) (cells : α → List Value) (w : World) (B : Nat) (A : Option Addr) (L : List α) : Prop :=
  L ≠ [] → ∃ b off, A = some ⟨b, off, none⟩ ∧ b < B ∧ ∀ i x, L[i]? = some x → ∀ j u, (cells x)[j]? = some u → w.cell? ⟨b, off + i * k + j, none⟩ = some u
abbrev Segs := Rows 3 Seg.cells
abbrev Legs := Rows 3 Leg.cells
abbrev Wins := Rows 2 Win.cells

section
variable {α : Type} {k : Nat} {cells : α → List Value} {w w' : World} {B B' : Nat} {A : Option Addr} {L : List α}
theorem Rows.nil : Rows k cells w B A ([] : List α) := fun h => absurd rfl h
theorem Rows.more (h : Rows k cells w B A L) (hB : B ≤ B') : Rows k cells w B' A L := fun hn => by
  obtain ⟨b, off, e, hb, hc⟩ := h hn
  exact ⟨b, off, e, by omega, hc⟩
theorem Rows.keep (h : Rows k cells w B A L) (hk : ∀ p : Addr, p.block < B → w'.cell? p = w.cell? p) : Rows k cells w' B A L := fun hn => by
  obtain ⟨b, off, e, hb, hc⟩ := h hn
  exact ⟨b, off, e, hb, fun i x hx j u hu => (hk _ hb).trans (hc i x hx j u hu)⟩
theorem Rows.below (h : Rows k cells w B A L) (hb : Below B w w') : Rows k cells w' B A L := h.keep fun _ hp => hb.cell hp
theorem Rows.bl (h : Rows k cells w w.heap.size A L) (hb : Below w.heap.size w w') : Rows k cells w' w'.heap.size A L := (h.below hb).more hb.size
theorem Rows.at_ (h : Rows k cells w B A L) {i : Nat} {x : α} (hx : L[i]? = some x) : ∃ b off, A = some ⟨b, off, none⟩ ∧ b < B ∧ ∀ j u, (cells x)[j]? = some u → w.cell? ⟨b, off + i * k + j, none⟩ = some u := by
  obtain ⟨b, off, e, hb, hc⟩ := h (fun e => by subst e; simp at hx)
  exact ⟨b, off, e, hb, fun j u hu => hc i x hx j u hu⟩
end
theorem Rows.seg {w : World} {B : Nat} {A : Option Addr} {L : List Seg} (h : Segs w B A L) {i : Nat} {x : Seg} (hx : L[i]? = some x) :
    ∃ b off, A = some ⟨b, off, none⟩ ∧ b < B ∧ w.cell? ⟨b, off + i * 3, none⟩ = some (.int .i64 x.at_) ∧ w.cell? ⟨b, off + i * 3 + 1, none⟩ = some (.int .i64 x.v.m) ∧ w.cell? ⟨b, off + i * 3 + 2, none⟩ = some (.int .i64 x.v.c) := by
  obtain ⟨b, off, e, hb, hc⟩ := h.at_ hx
  exact ⟨b, off, e, hb, hc 0 _ rfl, hc 1 _ rfl, hc 2 _ rfl⟩
theorem Rows.leg {w : World} {B : Nat} {A : Option Addr} {L : List Leg} (h : Legs w B A L) {i : Nat} {x : Leg} (hx : L[i]? = some x) :
    ∃ b off, A = some ⟨b, off, none⟩ ∧ b < B ∧ w.cell? ⟨b, off + i * 3, none⟩ = some (.int .i64 x.d) ∧ w.cell? ⟨b, off + i * 3 + 1, none⟩ = some (.int .i64 x.v.m) ∧ w.cell? ⟨b, off + i * 3 + 2, none⟩ = some (.int .i64 x.v.c) := by
  obtain ⟨b, off, e, hb, hc⟩ := h.at_ hx
  exact ⟨b, off, e, hb, hc 0 _ rfl, hc 1 _ rfl, hc 2 _ rfl⟩
theorem Rows.win {w : World} {B : Nat} {A : Option Addr} {L : List Win} (h : Wins w B A L) {i : Nat} {x : Win} (hx : L[i]? = some x) :
    ∃ b off, A = some ⟨b, off, none⟩ ∧ b < B ∧ w.cell? ⟨b, off + i * 2, none⟩ = some (.int .i64 x.f) ∧ w.cell? ⟨b, off + i * 2 + 1, none⟩ = some (.int .i64 x.t) := by
  obtain ⟨b, off, e, hb, hc⟩ := h.at_ hx
  exact ⟨b, off, e, hb, hc 0 _ rfl, hc 1 _ rfl⟩

end Go.Proofs.Ytdbogephaddbjaa
