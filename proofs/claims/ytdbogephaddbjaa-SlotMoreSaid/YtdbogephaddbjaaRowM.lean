/- The law SlotMore of package slot holds of every input: no begin is lost in a greater window, of a function that is at least the first one, and of a row without its last leg. -/
import Derived.Test.YtdbogephaddbjaaRows
import Derived.Test.YtdbogephaddbjaaLawM
import Derived.Test.YtdbogephaddbjaaOpen
import Derived.WalkKit
import Derived.ProofKit
import Derived.OpenShut
import Derived.ShutString
import Derived.ChangeOld
import Derived.Below
import Derived.SizedLaws
import Derived.Deep.Strs
namespace Go.Proofs.Ytdbogephaddbjaa.slotMore
open Go.ChangeShapes Go.WideShapes Go.ChangeAt Go.RowKit Go.Deep
set_option linter.unusedVariables false
theorem own : ownKnob Try.prog.godebug = none := by kernel_rfl
theorem laidOut : laidOutB Try.prog = true := by kernel_rfl
theorem u8_of {n : Int} (h : (Lit.int .u8 n).wf = true) : 0 ≤ n ∧ n ≤ 255 := by
  simp [Lit.wf, IntKind.min, IntKind.max, IntKind.signed, IntKind.bits] at h
  omega
theorem len5 {cs : List Value} (h : cs.length = 5) : ∃ a b c d e, cs = [a, b, c, d, e] := by
  match cs, h with
  | [a, b, c, d, e], _ => exact ⟨a, b, c, d, e, rfl⟩
section
variable {H : Type} {enc : TypeId × Value → H} {w : World} {base : Nat} {spare : Nat → Bool} {held : Bool} {fuel : Nat} {cs : List Value} {x : DataW H × List MemPlace}
theorem rd_segs (h : DataW.trod enc Try.prog w base spare held fuel 22 cs = some x) : ∃ (A : Option Addr) (L : List Seg) (cap : Nat), cs = [.slice A L.length cap] ∧ Segs w w.heap.size A L ∧ L.length ≤ cap ∧ cap ≤ maxLen ∧ ∀ a ∈ L, True :=
  rd_rows Try.underlying22 (by kernel_rfl) (fun h => by obtain ⟨a, m, c, rfl, _⟩ := rd_seg h; exact ⟨⟨a, m, c⟩, rfl, trivial⟩) seg_len (by omega) h
theorem rd_legs (h : DataW.trod enc Try.prog w base spare held fuel 25 cs = some x) : ∃ (A : Option Addr) (L : List Leg) (cap : Nat), cs = [.slice A L.length cap] ∧ Legs w w.heap.size A L ∧ L.length ≤ cap ∧ cap ≤ maxLen ∧ ∀ a ∈ L, True :=
  rd_rows Try.underlying25 (by kernel_rfl) (fun h => by obtain ⟨a, m, c, rfl, _⟩ := rd_leg h; exact ⟨⟨a, m, c⟩, rfl, trivial⟩) leg_len (by omega) h
theorem rd_u8 (h : DataW.trod enc Try.prog w base spare held fuel 5 cs = some x) : ∃ n, cs = [.int .u8 n] ∧ 0 ≤ n ∧ n ≤ 255 := by
  obtain ⟨n, rfl, _, hw⟩ := DataW.trod_int Try.underlying5 h
  exact ⟨n, rfl, u8_of hw⟩
set_option maxRecDepth 100000 in
theorem rd_two (h : DataW.trod enc Try.prog w base spare held fuel 26 cs = some x) : ∃ a b, cs = [.int .u8 a, .int .u8 b] ∧ (0 ≤ a ∧ a ≤ 255) ∧ (0 ≤ b ∧ b ≤ 255) := by
  obtain ⟨xs, m, _, _, hl, hxs, hi⟩ := DataW.trod_array Try.underlying26 h
  have hl' : cs.length = 2 := hl.trans (by kernel_rfl)
  obtain ⟨c0, c1, rfl⟩ := len2 hl'
  have k : Try.prog.cellsOf 5 = 1 := by kernel_rfl
  have h0 := hi 0 (by omega)
  have h1 := hi 1 (by omega)
  obtain ⟨a, e0, b0⟩ := rd_u8 (h0.trans (List.getElem?_eq_getElem (by omega)))
  obtain ⟨b, e1, b1⟩ := rd_u8 (h1.trans (List.getElem?_eq_getElem (by omega)))
  rw [k] at e0 e1
  simp at e0 e1
  exact ⟨a, b, by rw [e0, e1], b0, b1⟩
theorem rd_row (h : DataW.trod enc Try.prog w base spare held fuel 28 cs = some x) : ∃ (f t : Int) (A : Option Addr) (L : List Leg) (c : Nat) (a b : Int), cs = [.int .i64 f, .int .i64 t, .slice A L.length c, .int .u8 a, .int .u8 b] ∧ I64 f ∧ I64 t ∧ Legs w w.heap.size A L ∧ L.length ≤ c ∧ (0 ≤ a ∧ a ≤ 255) ∧ (0 ≤ b ∧ b ≤ 255) := by
  obtain ⟨y0, y1, y2, n, _, hl, h0, h1, h2⟩ := trod_struct3 Try.underlying28 h
  have hl' : cs.length = 5 := hl.trans (by kernel_rfl)
  obtain ⟨c0, c1, c2, c3, c4, rfl⟩ := len5 hl'
  obtain ⟨f, t, e0, bf, bt⟩ := rd_win h0
  obtain ⟨A, L, c, e1, hL, hc, _, _⟩ := rd_legs h1
  obtain ⟨a, b, e2, ba, bb⟩ := rd_two h2
  have k0 : Try.prog.cellsOf 24 = 2 := by kernel_rfl
  have k1 : Try.prog.cellsOf 25 = 1 := by kernel_rfl
  have k2 : Try.prog.cellsOf 26 = 2 := by kernel_rfl
  rw [k0] at e0
  rw [k1] at e1
  rw [k2] at e2
  simp at e0 e1 e2
  exact ⟨f, t, A, L, c, a, b, by rw [e0.1, e0.2, e1, e2.1, e2.2], bf, bt, hL, hc, ba, bb⟩
end

set_option maxRecDepth 100000 in
theorem lifted (os : Os) (started : os.Started) (H : Type) (enc : TypeId × Value → H) :
    ReturnsInHanded {} Try.checked os 3 .any (Rows.slotMoreSpec.pre6 enc Try.prog Try.f3 Rows.slotMoreRow.domain false) (Rows.slotMoreSpec.post enc Try.prog Try.f3 false true false false) := by
  refine returnsInHanded_of_change_sized (C := Try.checked) own started (by kernel_rfl) Try.func3
    (ChangeSpec.witness6 (enc := enc) (C := Try.checked) false ⟨#[], #[.slice none 0 0, .slice none 0 0, .agg #[.int .i64 0, .int .i64 0, .slice none 0 0, .int .u8 0, .int .u8 0]], []⟩ 8 (by kernel_rfl) (by kernel_rfl) (by kernel_rfl) (by kernel_rfl)) ?_
  intro W base args ds gs before hval0 hW hcnd hsz0 _
  have hval : ∀ (j : Nat) t v, (Try.f3).params[j]? = some t → args[j]? = some v → Value.okWide Try.prog W .any base t v := hval0
  have hW' := hW
  obtain ⟨p, q, hA0, hV, rfl, hfz, hnd⟩ := hW
  have hA : DataW.TrodAll enc Try.prog W 0 (fun _ => true) true (Try.f3).params.toList args.toList ds p := hA0
  rw [Try.params3] at hA hval
  obtain ⟨v0, vs0, d0, ds0, p0, q0, hargs, rfl, rfl, h0, r0⟩ := trodAll_cons hA
  obtain ⟨v1, vs1, d1, ds1, p1, q1, rfl, rfl, rfl, h1, r1⟩ := trodAll_cons r0
  obtain ⟨v2, vs2, d2, ds2, p2, q2, rfl, rfl, rfl, h2, r2⟩ := trodAll_cons r1
  obtain ⟨rfl, rfl, rfl⟩ := trodAll_nil r2
  obtain rfl : args = #[v0, v1, v2] := by cases args; simp_all
  obtain ⟨rfl, rfl⟩ := trodVars_none hV
  have k0 := h0
  have k1 := h1
  have k2 := h2
  have lt0 : ∀ x ∈ p0, x.block < W.heap.size := by obtain ⟨m, hm⟩ := k0; exact DataW.trod_lt m _ _ _ hm
  have lt1 : ∀ x ∈ p1, x.block < W.heap.size := by obtain ⟨m, hm⟩ := k1; exact DataW.trod_lt m _ _ _ hm
  have lt2 : ∀ x ∈ p2, x.block < W.heap.size := by obtain ⟨m, hm⟩ := k2; exact DataW.trod_lt m _ _ _ hm
  obtain ⟨a0, len0, cap0, rfl⟩ := okWide_slice Try.underlying22 (hval 0 22 v0 rfl rfl)
  obtain ⟨a1, len1, cap1, rfl⟩ := okWide_slice Try.underlying22 (hval 1 22 v1 rfl rfl)
  obtain ⟨cs2, rfl, hsz2⟩ := okWide_struct Try.underlying28 (hval 2 28 v2 rfl rfl)
  obtain ⟨fu0, hf0⟩ := h0
  obtain ⟨fu1, hf1⟩ := h1
  obtain ⟨fu2, hf2⟩ := h2
  obtain ⟨A, F, c, e0, hF, hc, _, _⟩ := rd_segs hf0
  obtain ⟨A1, G, c1, e1, hG, hc1, _, _⟩ := rd_segs hf1
  obtain ⟨f, t, A2, L, c2, b0, b1, e2, bf, bt, hL, hc2, hb0, hb1⟩ := rd_row hf2
  simp [Value.cells] at e0 e1
  obtain ⟨rfl, rfl, rfl⟩ := e0
  obtain ⟨rfl, rfl, rfl⟩ := e1
  obtain ⟨l2⟩ := cs2
  have e2' : l2 = [.int .i64 f, .int .i64 t, .slice A2 L.length c2, .int .u8 b0, .int .u8 b1] := by simpa [Value.cells] using e2
  subst e2'
  clear hA0 hval0 hsz0
  refine (law_more _ _ A2 F G L _ _ c2 f t b0 b1 W hF hG hL hc hc1 hc2 bf bt hb0 hb1).mono fun e W' ⟨he, bel⟩ => ?_
  subst he
  exact ⟨_, rfl, _, _, _, [], _, [], hW', trodAll_mk1 (shut_bool Try.underlying4 _),
    (trodAll_cons_mk (Below.trod laidOut (by kernel_rfl) (of_decide_eq_true (by kernel_rfl)) k0 bel lt0) (trodAll_cons_mk (Below.trod laidOut (by kernel_rfl) (of_decide_eq_true (by kernel_rfl)) k1 bel lt1) (trodAll_cons_mk (Below.trod laidOut (by kernel_rfl) (of_decide_eq_true (by kernel_rfl)) k2 bel lt2) trodAll_mk0))), rfl, bel.frame _, fun h => by cases h⟩
theorem over : Rows.slotMoreRow.holds Try.pinned (OpenSpec.ofChange Rows.slotMoreSpec) :=
  OpenClaim.holds_of_wide 3 Try.f3 rfl rfl rfl rfl rfl rfl rfl ⟨rfl, rfl, rfl, rfl, rfl⟩ rfl rfl rfl rfl rfl (by kernel_rfl) Try.func3 (by kernel_rfl)
    (of_decide_eq_true (by kernel_rfl)) (by unfold Func.isWrapper; first | (rw [if_pos (by decide +kernel)]; kernel_rfl) | (rw [if_neg (by decide +kernel)]; exact ⟨rfl, rfl⟩))
    (fun os started H enc _ => lifted os started H enc)
theorem proved : Rows.SlotMoreSaid := over
#print axioms proved
end Go.Proofs.Ytdbogephaddbjaa.slotMore
namespace Go.Proofs.Ytdbogephaddbjaa
/-- The row, under a short name, for the claim. -/
theorem slotMore_holds : Rows.SlotMoreSaid := slotMore.proved
end Go.Proofs.Ytdbogephaddbjaa
