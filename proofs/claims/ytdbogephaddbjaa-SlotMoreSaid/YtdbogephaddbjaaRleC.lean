/- Contracts of rle.Of, Box and what they call: slices.Clone at runs, folded and its closure. -/
import Derived.Test.YtdbogephaddbjaaSortF
import Derived.RangeFuncBox
import Derived.Maps.AppendAt
import Derived.Tactics
import Derived.Tactics2
import Derived.WalkKit
import Derived.LoopTactic
import Derived.WalkLawsBesides
import Derived.WalkSpells
import Derived.Outline
import Derived.Deep.QuietTactic
import Derived.BigQuiet
import Derived.Deep.DeepCutAuto
import Derived.Deep.LoopGhost
import Derived.Deep.RegionHeld3
import Derived.RegionTactic
import Derived.KernelRfl
import Derived.Lib.Hide
set_option linter.unusedVariables false
set_option linter.unusedSimpArgs false
namespace Go.Proofs.Ytdbogephaddbjaa
open Go.RowKit

/-! ### Rows of the call's own, of structs -/
def flat {α : Type} (cells : α → List Value) (L : List α) : List Value := (L.map cells).flatten
theorem flat_nil {α : Type} (cells : α → List Value) : flat cells ([] : List α) = [] := rfl
theorem flat_snoc {α : Type} (cells : α → List Value) (L : List α) (x : α) : flat cells (L ++ [x]) = flat cells L ++ cells x := by simp [flat]
theorem flat_cons {α : Type} (cells : α → List Value) (L : List α) (x : α) : flat cells (x :: L) = cells x ++ flat cells L := by simp [flat]
theorem flat_length {α : Type} {cells : α → List Value} {k : Nat} (hk : ∀ x, (cells x).length = k) : ∀ L : List α, (flat cells L).length = L.length * k
  | [] => by simp [flat]
  | x :: xs => by rw [flat_cons, List.length_append, flat_length hk xs, hk, List.length_cons, Nat.add_mul]; omega
theorem flat_get {α : Type} {cells : α → List Value} {k : Nat} (hk : ∀ x, (cells x).length = k) : ∀ (L : List α) (i : Nat) (x : α), L[i]? = some x → ∀ j u, (cells x)[j]? = some u → (flat cells L)[i * k + j]? = some u
  | [], i, x, h, _, _, _ => by simp at h
  | y :: ys, 0, x, h, j, u, hu => by
    simp at h
    subst h
    rw [flat_cons, Nat.zero_mul, Nat.zero_add, List.getElem?_append_left (List.getElem?_eq_some_iff.1 hu).1]
    exact hu
  | y :: ys, i + 1, x, h, j, u, hu => by
    rw [flat_cons, Nat.add_mul, Nat.one_mul, List.getElem?_append_right (by rw [hk]; omega), hk]
    rw [show i * k + k + j - k = i * k + j by omega]
    exact flat_get hk ys i x (by simpa using h) j u hu
theorem seg_len (x : Seg) : x.cells.length = 3 := rfl

/-- A slice of runs that the call owns, in blocks from base on. -/
abbrev OwnSegs (w : World) (base : Nat) (v : Value) (L : List Seg) : Prop := w.ownsRow base 62 3 v L.length (flat Seg.cells L)
theorem OwnSegs.form {w : World} {base : Nat} {v : Value} {L : List Seg} (h : OwnSegs w base v L) : ∃ A cap, v = .slice A L.length cap := by
  rcases h.2 with ⟨rfl, h0⟩ | ⟨g, cap, cur, rfl, _⟩
  · exact ⟨none, 0, by rw [h0]⟩
  · exact ⟨_, cap, rfl⟩
theorem OwnSegs.arr {w : World} {base : Nat} {L : List Seg} {A : Option Addr} {cap : Nat} (h : OwnSegs w base (.slice A L.length cap) L) (hL : L ≠ []) :
    ∃ g, A = some ⟨g, 0, none⟩ ∧ base ≤ g ∧ g < w.heap.size ∧ SegArr w g 0 L.length (fun i => L.getD i seg0) := by
  have hl : 0 < L.length := List.length_pos_iff.2 hL
  rcases h.2 with ⟨e, h0⟩ | ⟨g, cap', cur, e, hb, hh, _⟩
  · omega
  · injection e with e1 _ e3
    subst e1 e3
    refine ⟨g, rfl, hb, (Array.getElem?_eq_some_iff.1 hh).1, fun i hi => ?_⟩
    have hx : L[i]? = some L[i] := List.getElem?_eq_getElem hi
    have hxe : L.getD i seg0 = L[i] := by rw [List.getD_eq_getElem?_getD, hx]; rfl
    dsimp only
    rw [hxe]
    have hc : ∀ j u, L[i].cells[j]? = some u → w.cell? ⟨g, 0 + i * 3 + j, none⟩ = some u := fun j u hu => by
      have hj : j < 3 := (List.getElem?_eq_some_iff.1 hu).1
      rw [Nat.zero_add, h.cellAt (i * 3 + j) (by omega)]
      exact flat_get seg_len L i _ hx j u hu
    exact ⟨hc 0 _ rfl, hc 1 _ rfl, hc 2 _ rfl, h.frozenAt _, h.frozenAt _, h.frozenAt _⟩
theorem OwnSegs.rows {w : World} {base : Nat} {L : List Seg} {A : Option Addr} {cap : Nat} (h : OwnSegs w base (.slice A L.length cap) L) : Segs w w.heap.size A L := fun hL => by
  obtain ⟨g, rfl, hb, hg, ha⟩ := h.arr hL
  refine ⟨g, 0, rfl, hg, fun i x hx j u hu => ?_⟩
  have hi : i < L.length := (List.getElem?_eq_some_iff.1 hx).1
  obtain ⟨h1, h2, h3, _⟩ := ha i hi
  have hxe : L.getD i seg0 = x := by rw [List.getD_eq_getElem?_getD, hx]; rfl
  dsimp only at h1 h2 h3
  rw [hxe] at h1 h2 h3
  match j, hu with
  | 0, hu => injection hu with hu; subst hu; exact h1
  | 1, hu => injection hu with hu; subst hu; exact h2
  | 2, hu => injection hu with hu; subst hu; exact h3

theorem info_seg : (Try.prog.info? 62).map (fun i => (i.zero, i.size, i.bytes)) = some (some (.agg #[.int .i64 0, .int .i64 0, .int .i64 0]), 3, 24) := by kernel_rfl
theorem segs_one (L : List Seg) : ∀ u ∈ flat Seg.cells L, u.oneCell' = true := by
  intro u hu
  simp only [flat, List.mem_flatten, List.mem_map] at hu
  obtain ⟨l, ⟨x, _, rfl⟩, hu⟩ := hu
  simp only [Seg.cells, List.mem_cons, List.not_mem_nil, or_false] at hu
  rcases hu with rfl | rfl | rfl <;> rfl
theorem add_off {b off j : Nat} : (⟨b, off, none⟩ : Addr).add j = ⟨b, off + j, none⟩ := by unfold Addr.add; split <;> simp [*]

set_option maxHeartbeats 1000000 in
/-- slices.Clone at runs. -/
theorem clone_seg (A : Option Addr) (L : List Seg) (cap : Nat) (w : World) (hn : L.length ≤ 1000000) (hr : Segs w w.heap.size A L) :
    Calls Try.prog 100 #[.slice A L.length cap] w fun e w' => (∃ v, e = .returned v ∧ OwnSegs w' w.heap.size v L) ∧ Below w.heap.size w w' := by
  have hq := fun (w : World) (a : Option Addr) (n c : Nat) => Lib.run_eql_slice_nil (P := Try.prog) w 22 62 a n c 0 0 Try.underlying22
  obtain ⟨i0, hi, hz0, hz1, hz2⟩ := info_parts info_seg
  rcases A with _ | ad
  · have hL : L = [] := Classical.byContradiction fun h => by obtain ⟨b, off, e, _⟩ := hr h; cases e
    subst hL
    clear hr
    go_enter Try.func100, Try.ntmps100
    go_wp2
    go_ret
    exact ⟨⟨_, rfl, rfl, .inl ⟨rfl, rfl⟩⟩, Below.refl _ _⟩
  · have hcells : ∀ j u, (flat Seg.cells L)[j]? = some u → (w.alloc (.cells #[] 62)).cell? (ad.add j) = some u := fun j u hu => by
      have hL : L ≠ [] := fun e => by subst e; simp [flat] at hu
      obtain ⟨b, off, e, hb, hc⟩ := hr hL
      obtain rfl : ad = ⟨b, off, none⟩ := Option.some.inj e
      have hj : j < L.length * 3 := by rw [← flat_length seg_len]; exact (List.getElem?_eq_some_iff.1 hu).1
      have hx : L[j / 3]? = some L[j / 3] := List.getElem?_eq_getElem (by omega)
      have hlt : j % 3 < L[j / 3].cells.length := by rw [seg_len]; omega
      have h1 := hc _ _ hx (j % 3) _ (List.getElem?_eq_getElem hlt)
      have h2 := flat_get seg_len L _ _ hx (j % 3) _ (List.getElem?_eq_getElem hlt)
      rw [show j / 3 * 3 + j % 3 = j by omega] at h2
      rw [h2] at hu
      have hu' := Option.some.inj hu
      rw [add_off, ← hu']
      rw [show off + j / 3 * 3 + j % 3 = off + j by omega] at h1
      have hba : Below w.heap.size w (w.alloc (.cells #[] 62)) := bl_alloc bl_refl
      exact bl_cell hba h1
    have hown : (w.alloc (.cells #[] 62)).ownsRow w.heap.size 62 3 (.slice (some ⟨w.heap.size, 0, none⟩) 0 0) 0 [] :=
      ⟨rfl, .inr ⟨w.heap.size, 0, #[], rfl, Nat.le_refl _, heap_alloc_new w _, Nat.le_refl _, Nat.zero_le _, rfl, rfl⟩⟩
    have hlen := flat_length seg_len L
    have h1c := segs_one L
    clear hr
    go_enter Try.func100, Try.ntmps100
    go_wp2_with (at_builtin; refine wpList_append_own _ rfl _ _ 22 rfl w.heap.size 62 i0 _ 3 24 Try.underlying22 hi hz0 hz1 hz2 rfl (by decide) _ 0 [] rfl hown ad L.length _ (flat Seg.cells L) rfl hlen hcells h1c (by unfold maxLen; omega) (by omega) (by simp) ?_; intro v' w1 hown' hgrow _)
    go_ret
    rw [Nat.zero_add, List.nil_append] at hown'
    exact ⟨⟨_, rfl, hown'⟩, (Below.refl _ _).alloc (Nat.le_refl _) _ |>.grown hgrow (by simp) (fun k hk => Nat.le_of_eq (Option.some.inj (show some w.heap.size = some k from hk)))⟩

theorem Bx.mod {S : Nat → Prop} {W W' : World} {b : Nat} {vs : List Value} (h : Bx W b vs) (hm : Mod S W W') (hb : ¬ S b) : Bx W' b vs := fun i v hv => by
  have h0 := h i v hv
  have hh := hm.block b (by have := lt_of_cell h0.1; simpa using this) hb
  exact ⟨(World.cell?_of_block (w := W) hh).trans h0.1, (World.frozen?_of_block (w := W) hh).trans h0.2⟩
theorem Mod.of_grown {W W' : World} {row : Option Nat} (h : W.grownBy W' row) : Mod (fun k => some k = row) W W' := ⟨h.os, h.tape, h.output, h.size, fun k hk hs => h.block k hk hs⟩

/-! ### rle.folded -/
/-- The closure's two variables: the last value, and what was put. -/
structure PutVars (W : World) (bl bo base : Nat) (last : Vec) (out : List Seg) (v : Value) : Prop where
  l : Bx W bl last.box
  o : Bx W bo [v]
  r : OwnSegs W base v out
  b : base ≤ W.heap.size
def putLast (last : Vec) (x : Seg) : Vec := if x.v = last then last else x.v
def putOut (last : Vec) (out : List Seg) (x : Seg) : List Seg := if x.v = last then out else out ++ [x]

set_option maxRecDepth 20000 in
set_option maxHeartbeats 2000000 in
theorem folded1_put1 (bl bo base : Nat) (hlo : bl ≠ bo) (hbl : bl < base) (hbo : bo < base) (l1 l2 : Int) (out : List Seg) (A : Option Addr) (cap : Nat) (x : Seg) (w : World) (hn : out.length ≤ 1000000)
    (h1 : Bx w bl (Vec.box ⟨l1, l2⟩)) (h2 : Bx w bo [.slice A out.length cap]) (h3 : OwnSegs w base (.slice A out.length cap) out) (h4 : base ≤ w.heap.size) (ht : (x.v.m == l1) = false) :
    Calls Try.prog 102 #[.agg #[.int .i64 x.at_, .int .i64 x.v.m, .int .i64 x.v.c], .pointer (some ⟨bl, 0, none⟩), .pointer (some ⟨bo, 0, none⟩)] w fun e w' =>
      (∃ r, e = .returned r) ∧ (∃ v', PutVars w' bl bo base x.v (out ++ [x]) v') ∧ Mod (fun k => k = bl ∨ k = bo ∨ base ≤ k) w w' := by
  obtain ⟨g1, g2, g3, g4, g5⟩ := h1.two
  obtain ⟨k1, k2, k3⟩ := h2.one
  dsimp only at g1 g2
  obtain ⟨i0, hi, hz0, hz1, hz2⟩ := info_parts info_seg
  have q1 : ¬ bl = w.heap.size := by omega
  have q2 : ¬ bo = w.heap.size := by omega
  have q3 : ¬ w.heap.size = bl := by omega
  have q4 : ¬ w.heap.size = bo := by omega
  have q5 : ¬ bl = bo := hlo
  have q6 : ¬ bo = bl := fun e => hlo e.symm
  have HH := Lib.hid (And.intro h1 (And.intro h2 (And.intro h3 h4)))
  clear h1 h2 h3 hlo
  go_enter Try.func102, Try.ntmps102
  go_wp2_with (at_builtin; refine wpList_append_own _ rfl _ _ 22 rfl base 62 i0 _ 3 24 Try.underlying22 hi hz0 hz1 hz2 rfl (by decide) _ out.length _ rfl ((HH.out.2.2.1.alloc _).alloc _) ⟨w.heap.size + 1, 0, none⟩ 1 1 x.cells rfl rfl ?c1 ?c2 ?c3 ?c4 ?c5 ?_)
  case c1 =>
    intro j u hu
    rw [add_off]
    have hx := Bx.new (w.alloc (.cells #[.int .i64 x.at_, .int .i64 x.v.m, .int .i64 x.v.c] 62)) x.cells 62
    rw [World.size_alloc] at hx
    rw [Nat.zero_add]
    exact hx.cell j hu
  case c2 => exact fun u hu => segs_one [x] u (by simpa [flat] using hu)
  case c3 => unfold maxLen; omega
  case c4 => omega
  case c5 => simp; omega
  intro v' w1 hown' hgrow _
  obtain ⟨g', cap', rfl⟩ := ownsRow_succ hown'
  obtain ⟨h1, h2, h3, h4'⟩ := HH.out
  have hlt3 : ∀ k, (Value.slice A out.length cap).ownBlock = some k → base ≤ k ∧ k < w.heap.size := h3.lt
  have hM := Mod.of_grown hgrow
  have hn1 : ¬ some bl = (Value.slice A out.length cap).ownBlock := fun e => by have := hlt3 bl e.symm; omega
  have hn2 : ¬ some bo = (Value.slice A out.length cap).ownBlock := fun e => by have := hlt3 bo e.symm; omega
  have hn3 : ¬ some w.heap.size = (Value.slice A out.length cap).ownBlock := fun e => by have := hlt3 _ e.symm; omega
  have b1 := ((h1.alloc (.cells #[.int .i64 x.at_, .int .i64 x.v.m, .int .i64 x.v.c] 62)).alloc (.cells #[.int .i64 x.at_, .int .i64 x.v.m, .int .i64 x.v.c] 62)).mod hM hn1
  have b2 := ((h2.alloc (.cells #[.int .i64 x.at_, .int .i64 x.v.m, .int .i64 x.v.c] 62)).alloc (.cells #[.int .i64 x.at_, .int .i64 x.v.m, .int .i64 x.v.c] 62)).mod hM hn2
  have b3 := ((Bx.new w x.cells 62).alloc (.cells #[.int .i64 x.at_, .int .i64 x.v.m, .int .i64 x.v.c] 62)).mod hM hn3
  have hMM : Mod (fun k => k = bl ∨ k = bo ∨ base ≤ k) w w1 := ((Mod.refl.alloc _).alloc _).trans (hM.wide fun k hk => .inr (.inr (hlt3 k hk.symm).1))
  have HH2 := Lib.hid (And.intro b1 (And.intro b2 (And.intro hown' (And.intro h4' hMM))))
  obtain ⟨g1', g2', g3', g4', g5'⟩ := b1.two
  obtain ⟨k1', k2', k3'⟩ := b2.one
  have x1 := b3.cell 1 rfl
  have x2 := b3.cell 2 rfl
  have hsz : w.heap.size ≤ w1.heap.size := hMM.size
  clear b1 b2 b3 hown' hMM hM hn1 hn2 hn3 hlt3 hgrow h1 h2 h3 g1 g2 g3 g4 k1 k2 ht hi hz0 hz1 hz2
  go_wp2
  go_end0
  obtain ⟨b1, b2, hown', h4', hMM⟩ := HH2.out
  have hf : flat Seg.cells (out ++ [x]) = flat Seg.cells out ++ x.cells := flat_snoc _ _ _
  refine ⟨⟨_, rfl⟩, ⟨_, ((b1.far (p := ⟨bo, 0, none⟩) q5 _).set 0 _).set 1 _, ((b2.set 0 _).far (p := ⟨bl, 0, none⟩) q6 _).far (p := ⟨bl, 1, none⟩) q6 _, ?_, ?_⟩, ?_⟩
  · show World.ownsRow _ _ _ _ _ _ _
    rw [hf, List.length_append]
    exact ownsRow_setCell_below (ownsRow_setCell_below (ownsRow_setCell_below hown' hbo _) hbl _) hbl _
  · have := hMM.size
    simp [World.setCell]
    omega
  · exact ((hMM.setCell (p := ⟨bo, 0, none⟩) (.inr (.inl rfl)) _).setCell (p := ⟨bl, 0, none⟩) (.inl rfl) _).setCell (p := ⟨bl, 1, none⟩) (.inl rfl) _

set_option maxRecDepth 20000 in
set_option maxHeartbeats 2000000 in
theorem folded1_put2 (bl bo base : Nat) (hlo : bl ≠ bo) (hbl : bl < base) (hbo : bo < base) (l2 : Int) (out : List Seg) (A : Option Addr) (cap : Nat) (x : Seg) (w : World) (hn : out.length ≤ 1000000)
    (h1 : Bx w bl (Vec.box ⟨x.v.m, l2⟩)) (h2 : Bx w bo [.slice A out.length cap]) (h3 : OwnSegs w base (.slice A out.length cap) out) (h4 : base ≤ w.heap.size) (ht : (x.v.c == l2) = false) :
    Calls Try.prog 102 #[.agg #[.int .i64 x.at_, .int .i64 x.v.m, .int .i64 x.v.c], .pointer (some ⟨bl, 0, none⟩), .pointer (some ⟨bo, 0, none⟩)] w fun e w' =>
      (∃ r, e = .returned r) ∧ (∃ v', PutVars w' bl bo base x.v (out ++ [x]) v') ∧ Mod (fun k => k = bl ∨ k = bo ∨ base ≤ k) w w' := by
  obtain ⟨g1, g2, g3, g4, g5⟩ := h1.two
  obtain ⟨k1, k2, k3⟩ := h2.one
  dsimp only at g1 g2
  obtain ⟨i0, hi, hz0, hz1, hz2⟩ := info_parts info_seg
  have q1 : ¬ bl = w.heap.size := by omega
  have q2 : ¬ bo = w.heap.size := by omega
  have q3 : ¬ w.heap.size = bl := by omega
  have q4 : ¬ w.heap.size = bo := by omega
  have q5 : ¬ bl = bo := hlo
  have q6 : ¬ bo = bl := fun e => hlo e.symm
  have HH := Lib.hid (And.intro h1 (And.intro h2 (And.intro h3 h4)))
  clear h1 h2 h3 hlo
  go_enter Try.func102, Try.ntmps102
  go_wp2_with (at_builtin; refine wpList_append_own _ rfl _ _ 22 rfl base 62 i0 _ 3 24 Try.underlying22 hi hz0 hz1 hz2 rfl (by decide) _ out.length _ rfl ((HH.out.2.2.1.alloc _).alloc _) ⟨w.heap.size + 1, 0, none⟩ 1 1 x.cells rfl rfl ?c1 ?c2 ?c3 ?c4 ?c5 ?_)
  case c1 =>
    intro j u hu
    rw [add_off]
    have hx := Bx.new (w.alloc (.cells #[.int .i64 x.at_, .int .i64 x.v.m, .int .i64 x.v.c] 62)) x.cells 62
    rw [World.size_alloc] at hx
    rw [Nat.zero_add]
    exact hx.cell j hu
  case c2 => exact fun u hu => segs_one [x] u (by simpa [flat] using hu)
  case c3 => unfold maxLen; omega
  case c4 => omega
  case c5 => simp; omega
  intro v' w1 hown' hgrow _
  obtain ⟨g', cap', rfl⟩ := ownsRow_succ hown'
  obtain ⟨h1, h2, h3, h4'⟩ := HH.out
  have hlt3 : ∀ k, (Value.slice A out.length cap).ownBlock = some k → base ≤ k ∧ k < w.heap.size := h3.lt
  have hM := Mod.of_grown hgrow
  have hn1 : ¬ some bl = (Value.slice A out.length cap).ownBlock := fun e => by have := hlt3 bl e.symm; omega
  have hn2 : ¬ some bo = (Value.slice A out.length cap).ownBlock := fun e => by have := hlt3 bo e.symm; omega
  have hn3 : ¬ some w.heap.size = (Value.slice A out.length cap).ownBlock := fun e => by have := hlt3 _ e.symm; omega
  have b1 := ((h1.alloc (.cells #[.int .i64 x.at_, .int .i64 x.v.m, .int .i64 x.v.c] 62)).alloc (.cells #[.int .i64 x.at_, .int .i64 x.v.m, .int .i64 x.v.c] 62)).mod hM hn1
  have b2 := ((h2.alloc (.cells #[.int .i64 x.at_, .int .i64 x.v.m, .int .i64 x.v.c] 62)).alloc (.cells #[.int .i64 x.at_, .int .i64 x.v.m, .int .i64 x.v.c] 62)).mod hM hn2
  have b3 := ((Bx.new w x.cells 62).alloc (.cells #[.int .i64 x.at_, .int .i64 x.v.m, .int .i64 x.v.c] 62)).mod hM hn3
  have hMM : Mod (fun k => k = bl ∨ k = bo ∨ base ≤ k) w w1 := ((Mod.refl.alloc _).alloc _).trans (hM.wide fun k hk => .inr (.inr (hlt3 k hk.symm).1))
  have HH2 := Lib.hid (And.intro b1 (And.intro b2 (And.intro hown' (And.intro h4' hMM))))
  obtain ⟨g1', g2', g3', g4', g5'⟩ := b1.two
  obtain ⟨k1', k2', k3'⟩ := b2.one
  have x1 := b3.cell 1 rfl
  have x2 := b3.cell 2 rfl
  have hsz : w.heap.size ≤ w1.heap.size := hMM.size
  clear b1 b2 b3 hown' hMM hM hn1 hn2 hn3 hlt3 hgrow h1 h2 h3 g1 g2 g3 g4 k1 k2 ht hi hz0 hz1 hz2
  go_wp2
  go_end0
  obtain ⟨b1, b2, hown', h4', hMM⟩ := HH2.out
  have hf : flat Seg.cells (out ++ [x]) = flat Seg.cells out ++ x.cells := flat_snoc _ _ _
  refine ⟨⟨_, rfl⟩, ⟨_, ((b1.far (p := ⟨bo, 0, none⟩) q5 _).set 0 _).set 1 _, ((b2.set 0 _).far (p := ⟨bl, 0, none⟩) q6 _).far (p := ⟨bl, 1, none⟩) q6 _, ?_, ?_⟩, ?_⟩
  · show World.ownsRow _ _ _ _ _ _ _
    rw [hf, List.length_append]
    exact ownsRow_setCell_below (ownsRow_setCell_below (ownsRow_setCell_below hown' hbo _) hbl _) hbl _
  · have := hMM.size
    simp [World.setCell]
    omega
  · exact ((hMM.setCell (p := ⟨bo, 0, none⟩) (.inr (.inl rfl)) _).setCell (p := ⟨bl, 0, none⟩) (.inl rfl) _).setCell (p := ⟨bl, 1, none⟩) (.inl rfl) _

set_option maxHeartbeats 1000000 in
theorem folded1 (bl bo base : Nat) (hlo : bl ≠ bo) (hbl : bl < base) (hbo : bo < base) (last : Vec) (out : List Seg) (v : Value) (x : Seg) (w : World) (hn : out.length ≤ 1000000) (hp : PutVars w bl bo base last out v) :
    Calls Try.prog 102 #[.agg #[.int .i64 x.at_, .int .i64 x.v.m, .int .i64 x.v.c], .pointer (some ⟨bl, 0, none⟩), .pointer (some ⟨bo, 0, none⟩)] w fun e w' =>
      (∃ r, e = .returned r) ∧ (∃ v', PutVars w' bl bo base (putLast last x) (putOut last out x) v') ∧ Mod (fun k => k = bl ∨ k = bo ∨ base ≤ k) w w' := by
  obtain ⟨h1, h2, h3, h4⟩ := hp
  obtain ⟨g1, g2, g3, g4, g5⟩ := h1.two
  obtain ⟨k1, k2, k3⟩ := h2.one
  obtain ⟨A, cap, rfl⟩ := h3.form
  obtain ⟨l1, l2⟩ := last
  by_cases hm : x.v.m = l1
  · by_cases hc : x.v.c = l2
    · have e : x.v = ⟨l1, l2⟩ := by rw [← hm, ← hc]
      have r1 : putLast ⟨l1, l2⟩ x = ⟨l1, l2⟩ := by unfold putLast; rw [if_pos e]
      have r2 : putOut ⟨l1, l2⟩ out x = out := by unfold putOut; rw [if_pos e]
      rw [r1, r2]
      dsimp only at g1 g2
      have e1 : (x.v.m == l1) = true := by simpa using hm
      have e2 : (x.v.c == l2) = true := by simpa using hc
      have HH := Lib.hid (And.intro h1 (And.intro h2 (And.intro h3 h4)))
      clear h1 h2 h3 hm hc e r1 r2
      go_enter Try.func102, Try.ntmps102
      go_wp2
      go_end0
      obtain ⟨h1, h2, h3, h4'⟩ := HH.out
      exact ⟨⟨_, rfl⟩, ⟨_, h1.alloc _, h2.alloc _, h3.alloc _, by simp; omega⟩, Mod.refl.alloc _⟩
    · have e : ¬ x.v = ⟨l1, l2⟩ := fun e => hc (by rw [e])
      have r1 : putLast ⟨l1, l2⟩ x = x.v := by unfold putLast; rw [if_neg e]
      have r2 : putOut ⟨l1, l2⟩ out x = out ++ [x] := by unfold putOut; rw [if_neg e]
      rw [r1, r2]
      dsimp only at g1 g2
      subst hm
      have ht : (x.v.c == l2) = false := by simpa using hc
      exact folded1_put2 bl bo base hlo hbl hbo l2 out A cap x w hn h1 h2 h3 h4 ht
  · have e : ¬ x.v = ⟨l1, l2⟩ := fun e => hm (by rw [e])
    have r1 : putLast ⟨l1, l2⟩ x = x.v := by unfold putLast; rw [if_neg e]
    have r2 : putOut ⟨l1, l2⟩ out x = out ++ [x] := by unfold putOut; rw [if_neg e]
    rw [r1, r2]
    dsimp only at g1 g2
    have ht : (x.v.m == l1) = false := by simpa using hm
    exact folded1_put1 bl bo base hlo hbl hbo l1 l2 out A cap x w hn h1 h2 h3 h4 ht

def ltA (x y : Seg) : Prop := x.at_ < y.at_
instance : DecidableRel ltA := fun x y => inferInstanceAs (Decidable (x.at_ < y.at_))
theorem ltA_swo : SWO ltA := ⟨fun x y h h' => by unfold ltA at *; omega, fun x y z h h' => by unfold ltA at *; omega⟩
/-- One round of folded: the last run of its time is put, if it tells a new value. -/
def foldStep (l : List Seg) (s : Vec × List Seg) (k : Nat) : Vec × List Seg :=
  if k + 1 = l.length ∨ (l.getD (k + 1) seg0).at_ ≠ (l.getD k seg0).at_ then (putLast s.1 (l.getD k seg0), putOut s.1 s.2 (l.getD k seg0)) else s
def foldSt (l : List Seg) (k : Nat) : Vec × List Seg := (List.range k).foldl (foldStep l) (⟨0, 0⟩, [])
theorem foldSt_succ (l : List Seg) (k : Nat) : foldSt l (k + 1) = foldStep l (foldSt l k) k := by
  unfold foldSt
  rw [List.range_succ, List.foldl_append]
  rfl
theorem foldSt_len (l : List Seg) : ∀ k, (foldSt l k).2.length ≤ k
  | 0 => by simp [foldSt]
  | k + 1 => by
    rw [foldSt_succ]
    have := foldSt_len l k
    unfold foldStep
    split
    · simp only [putOut]
      split
      · omega
      · simp; omega
    · omega
/-- The function of runs that may all be. -/
def foldedF (raw : List Seg) : List Seg := (foldSt (isort ltA raw) raw.length).2

theorem cmp_compare (v : Value) : CmpSeg ltA 99 #[v] (fun _ => False) (fun _ => True) := fun x y W _ =>
  (rle_compare v _ _ _ _ _ _ W).mono fun e W' ⟨h1, h2⟩ => ⟨⟨_, h1, by unfold cmpAt ltA; dsimp only; split <;> (try split) <;> omega⟩, trivial, Mod.of_bl h2⟩

end Go.Proofs.Ytdbogephaddbjaa
