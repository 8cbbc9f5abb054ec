/- Arguments that a law reads: numbers, vectors, windows, rows of runs and of legs, opened to lists. -/
import Derived.Test.YtdbogephaddbjaaBase
import Derived.Deep.Slices
import Derived.Deep.Fields
import Derived.ChangeSame
import Derived.OpenShut
import Derived.Tactics
import Derived.Tactics2
import Derived.WalkKit
import Derived.LoopTactic
import Derived.WalkLawsBesides
import Derived.WalkSpells
import Derived.Outline
import Derived.Deep.QuietTactic
import Derived.BigQuiet
import Derived.Deep.DeepCutAuto
import Derived.Deep.LoopGhost
import Derived.Deep.RegionHeld3
import Derived.RegionTactic
import Derived.KernelRfl
import Derived.Lib.Hide
set_option linter.unusedVariables false
set_option linter.unusedSimpArgs false
namespace Go.Proofs.Ytdbogephaddbjaa
open Go.RowKit
open Go.ChangeShapes Go.WideShapes Go.Deep

def I64 (n : Int) : Prop := -9223372036854775808 ≤ n ∧ n ≤ 9223372036854775807
theorem i64_of {n : Int} (h : (Lit.int .i64 n).wf = true) : I64 n := by
  simp [Lit.wf, IntKind.min, IntKind.max, IntKind.signed, IntKind.bits] at h
  unfold I64
  omega

theorem len2 {cs : List Value} (h : cs.length = 2) : ∃ a b, cs = [a, b] := by
  match cs, h with
  | [a, b], _ => exact ⟨a, b, rfl⟩
theorem len3 {cs : List Value} (h : cs.length = 3) : ∃ a b c, cs = [a, b, c] := by
  match cs, h with
  | [a, b, c], _ => exact ⟨a, b, c, rfl⟩
section
variable {H : Type} {enc : TypeId × Value → H} {w : World} {base : Nat} {spare : Nat → Bool} {held : Bool} {fuel : Nat} {cs : List Value} {x : DataW H × List MemPlace}
theorem rd_int {t : TypeId} (ht : Try.prog.underlying t = some (.int .i64)) (h : DataW.trod enc Try.prog w base spare held fuel t cs = some x) : ∃ n, cs = [.int .i64 n] ∧ I64 n := by
  obtain ⟨n, rfl, _, hw⟩ := DataW.trod_int ht h
  exact ⟨n, rfl, i64_of hw⟩
theorem rd_vec (h : DataW.trod enc Try.prog w base spare held fuel 51 cs = some x) : ∃ m c, cs = [.int .i64 m, .int .i64 c] ∧ I64 m ∧ I64 c := by
  obtain ⟨y0, y1, n, _, hl, h0, h1⟩ := trod_struct2 Try.underlying51 h
  have hl' : cs.length = 2 := hl.trans (by kernel_rfl)
  obtain ⟨c0, c1, rfl⟩ := len2 hl'
  · skip
    obtain ⟨m, e0, b0⟩ := rd_int Try.underlying2 h0
    obtain ⟨c, e1, b1⟩ := rd_int Try.underlying2 h1
    refine ⟨m, c, ?_, b0, b1⟩
    have k : Try.prog.cellsOf 2 = 1 := by kernel_rfl
    rw [k] at e0 e1
    simp at e0 e1
    rw [e0, e1]
theorem rd_win (h : DataW.trod enc Try.prog w base spare held fuel 24 cs = some x) : ∃ f t, cs = [.int .i64 f, .int .i64 t] ∧ I64 f ∧ I64 t := by
  obtain ⟨y0, y1, n, _, hl, h0, h1⟩ := trod_struct2 Try.underlying24 h
  have hl' : cs.length = 2 := hl.trans (by kernel_rfl)
  obtain ⟨c0, c1, rfl⟩ := len2 hl'
  · skip
    obtain ⟨m, e0, b0⟩ := rd_int Try.underlying2 h0
    obtain ⟨c, e1, b1⟩ := rd_int Try.underlying2 h1
    refine ⟨m, c, ?_, b0, b1⟩
    have k : Try.prog.cellsOf 2 = 1 := by kernel_rfl
    rw [k] at e0 e1
    simp at e0 e1
    rw [e0, e1]
/-- A struct of a number and a vector. -/
theorem rd_numvec {t : TypeId} {f0 f1 : Field} (ht : Try.prog.underlying t = some (.struct #[f0, f1])) (hc : Try.prog.cellsOf t = 3) (e0 : f0.type = 2) (o0 : f0.offset = 0) (e1 : f1.type = 51) (o1 : f1.offset = 1)
    (h : DataW.trod enc Try.prog w base spare held fuel t cs = some x) : ∃ a m c, cs = [.int .i64 a, .int .i64 m, .int .i64 c] ∧ I64 a ∧ I64 m ∧ I64 c := by
  obtain ⟨y0, y1, n, _, hl, h0, h1⟩ := trod_struct2 ht h
  have hl' : cs.length = 3 := hl.trans hc
  rw [e0, o0] at h0
  rw [e1, o1] at h1
  obtain ⟨c0, c1, c2, rfl⟩ := len3 hl'
  · skip
    obtain ⟨a, q0, b0⟩ := rd_int Try.underlying2 h0
    obtain ⟨m, c, q1, b1, b2⟩ := rd_vec h1
    refine ⟨a, m, c, ?_, b0, b1, b2⟩
    have k : Try.prog.cellsOf 2 = 1 := by kernel_rfl
    have k2 : Try.prog.cellsOf 51 = 2 := by kernel_rfl
    rw [k] at q0
    rw [k2] at q1
    simp at q0 q1
    rw [q0, q1.1, q1.2]
theorem rd_seg (h : DataW.trod enc Try.prog w base spare held fuel 62 cs = some x) : ∃ a m c, cs = [.int .i64 a, .int .i64 m, .int .i64 c] ∧ I64 a ∧ I64 m ∧ I64 c :=
  rd_numvec Try.underlying62 (by kernel_rfl) rfl rfl rfl rfl h
theorem rd_leg (h : DataW.trod enc Try.prog w base spare held fuel 53 cs = some x) : ∃ a m c, cs = [.int .i64 a, .int .i64 m, .int .i64 c] ∧ I64 a ∧ I64 m ∧ I64 c :=
  rd_numvec Try.underlying53 (by kernel_rfl) rfl rfl rfl rfl h

theorem fin_choose {α : Type} {p : Nat → α → Prop} : ∀ (n : Nat), (∀ i, i < n → ∃ a, p i a) → ∃ L : List α, L.length = n ∧ ∀ i a, L[i]? = some a → p i a
  | 0, _ => ⟨[], rfl, fun i a h => by simp at h⟩
  | n + 1, h => by
    obtain ⟨L, hl, hp⟩ := fin_choose n fun i hi => h i (by omega)
    obtain ⟨a, ha⟩ := h n (by omega)
    refine ⟨L ++ [a], by simp [hl], fun i b hb => ?_⟩
    by_cases hi : i < n
    · rw [List.getElem?_append_left (by omega)] at hb; exact hp i b hb
    · have : i < (L ++ [a]).length := (List.getElem?_eq_some_iff.1 hb).1
      have hin : i = n := by simp at this; omega
      subst hin
      rw [← hl, List.getElem?_concat_length] at hb
      injection hb with hb
      subst hb
      exact ha
/-- A slice of structs of k cells each, opened to a list. -/
theorem rd_rows {α : Type} {t e : TypeId} {k : Nat} {cells : α → List Value} {q : α → Prop} (ht : Try.prog.underlying t = some (.slice e)) (hk : Try.prog.cellsOf e = k)
    (hd : ∀ {fuel : Nat} {cs : List Value} {x : DataW H × List MemPlace}, DataW.trod enc Try.prog w base spare held fuel e cs = some x → ∃ a : α, cs = cells a ∧ q a)
    (hlen : ∀ a : α, (cells a).length = k) (hk0 : 0 < k)
    (h : DataW.trod enc Try.prog w base spare held fuel t cs = some x) :
    ∃ (A : Option Addr) (L : List α) (cap : Nat), cs = [.slice A L.length cap] ∧ Rows k cells w w.heap.size A L ∧ L.length ≤ cap ∧ cap ≤ maxLen ∧ ∀ a ∈ L, q a := by
  rcases open_slice ht h with ⟨rfl, _⟩ | ⟨a, len, cap, m, n, D, Pl, rfl, hb, hl, hm, hmm, hx, hi⟩
  · exact ⟨none, [], 0, rfl, Rows.nil, Nat.le_refl _, Nat.zero_le _, fun a h => by simp at h⟩
  · have hlm : len ≤ m := by rw [hmm]; split <;> omega
    obtain ⟨L, hL, hp⟩ := fin_choose (α := α) (p := fun i a' => (∀ j u, (cells a')[j]? = some u → w.cell? (a.add (i * k + j)) = some u) ∧ q a') len fun i hlt => by
      obtain ⟨cs', hc, ht'⟩ := hi i (by omega)
      obtain ⟨a', rfl, hq⟩ := hd ht'
      rw [hk] at hc
      obtain ⟨_, hcl, hat⟩ := World.cells?_some hc
      refine ⟨a', fun j u hu => ?_, hq⟩
      have hj : j < k := by have := (List.getElem?_eq_some_iff.1 hu).1; omega
      rw [← Go.Deep.add_add, hat j hj, hu]
    refine ⟨some a, L, cap, by rw [hL], fun hn => ?_, by omega, hm, fun a' ha' => ?_⟩
    · obtain ⟨a0, L', rfl⟩ := List.exists_cons_of_ne_nil hn
      have h0 := (hp 0 a0 rfl).1
      obtain ⟨u, hu⟩ : ∃ u, (cells a0)[0]? = some u := ⟨_, List.getElem?_eq_getElem (by rw [hlen]; exact hk0)⟩
      have hc0 := h0 0 u hu
      obtain ⟨b, off, spot⟩ := a
      have hs : spot = none := by
        unfold World.cell? at hc0
        split at hc0
        · split at hc0
          · cases hc0
          · rename_i hsp
            have e : (⟨b, off, spot⟩ : Addr).add (0 * k + 0) = ⟨b, off, spot⟩ := by simp [Addr.add]
            rw [e] at hsp
            simpa using hsp
        · cases hc0
      subst hs
      have e : ∀ n, (⟨b, off, none⟩ : Addr).add n = ⟨b, off + n, none⟩ := fun n => by unfold Addr.add; split <;> simp [*]
      refine ⟨b, off, rfl, ?_, fun i x hx j u hu => ?_⟩
      · have := lt_of_cell hc0
        rw [e] at this
        exact this
      · have := (hp i x hx).1 j u hu
        rw [e, ← Nat.add_assoc] at this
        exact this
    · obtain ⟨i, hi', rfl⟩ := List.mem_iff_getElem.1 ha'
      exact (hp i _ (List.getElem?_eq_getElem hi')).2
end
end Go.Proofs.Ytdbogephaddbjaa
