/- A range over a function whose iterator keeps state in cells: what the iterator owes, and the law of the loop. -/
import Derived.Test.YtdbogephaddbjaaRleD
import Derived.RangeFuncNested
import Derived.RangeFuncBound
import Derived.RangeFuncCalls
import Derived.RangeFuncLeaves
import Derived.Shelf.Abstract
import Derived.Shelf.RegionOpen
import Derived.OwnWalkIn
import Derived.TacticsInMore
import Derived.LoopNIn
import Derived.LoopIn
import Derived.Tactics
import Derived.Tactics2
import Derived.WalkKit
import Derived.LoopTactic
import Derived.WalkLawsBesides
import Derived.WalkSpells
import Derived.Outline
import Derived.Deep.QuietTactic
import Derived.BigQuiet
import Derived.Deep.DeepCutAuto
import Derived.Deep.LoopGhost
import Derived.Deep.RegionHeld3
import Derived.RegionTactic
import Derived.KernelRfl
import Derived.Lib.Hide
set_option linter.unusedVariables false
set_option linter.unusedSimpArgs false
namespace Go.Proofs.Ytdbogephaddbjaa
open Go.RowKit

/-- What an iterator owes: n rounds, round k with the values enc k. Own: old blocks that it turns. Prot: old blocks that a round may not turn. S: the new blocks that are the iterator's; what else is new is the rounds'. -/
def Iter (P : Program) (g : Nat) (lb : Array Value) (n : Nat) (enc : Nat → Array Value) (W0 : World) (Own Prot : Nat → Prop) : Prop :=
  ∀ (l : Nat) (Sb : Nat → Prop), (∀ k, Sb k → ¬ Prot k ∧ k < W0.heap.size) →
  ∀ (J Jx : (Nat → Prop) → Nat → World → Prop),
    (∀ S W, Mod Own W0 W → (∀ b, S b → W0.heap.size ≤ b) → J S 0 W) →
    (∀ (S S' : Nat → Prop) k W W', J S k W → (∀ b, S' b → S b ∨ W.heap.size ≤ b) → Mod (fun b => Own b ∨ S b) W W' → J S' k W') →
    (∀ (S S' : Nat → Prop) k W W', Jx S k W → (∀ b, S' b → S b ∨ W.heap.size ≤ b) → Mod (fun b => Own b ∨ S b) W W' → Jx S' k W') →
    (∀ S k W, k < n → J S k W → (∀ b, S b → W0.heap.size ≤ b ∧ b < W.heap.size) → YieldAt Fence.wide 3 P l (enc k) W fun e W' =>
      (e = .returned (.bool true) ∧ J S (k + 1) W' ∧ Mod (fun b => Sb b ∨ (W0.heap.size ≤ b ∧ ¬ S b)) W W') ∨ (e = .returned (.bool false) ∧ Jx S (k + 1) W')) →
    CallsIn Fence.wide 3 P g (#[.func (.yield l) #[] #[]] ++ lb) W0 fun e W' => (∃ v, e = .returned v) ∧ ∃ S, (∀ b, S b → W0.heap.size ≤ b) ∧ (J S n W' ∨ ∃ k, Jx S k W')

theorem Mod.putObj {S : Nat → Prop} {W : World} {l : Nat} (o : Obj) (h : S l) : Mod S W (W.putObj l o) :=
  ⟨rfl, rfl, rfl, by simp, fun k _ hk => World.putObj_heap_other (fun e => hk (by rw [e]; exact h))⟩
theorem Mod.heap {S : Nat → Prop} {W W' : World} (h : Mod S W W') {k : Nat} {o : Obj} (hk : W.heap[k]? = some o) (hs : ¬ S k) : W'.heap[k]? = some o :=
  (h.block k (Array.getElem?_eq_some_iff.1 hk).1 hs).trans hk

/-- What a round's body leaves. -/
def rpost (I : (Nat → Prop) → Nat → World → Prop) (Ix : Code → (Nat → Prop) → Nat → World → Prop) (Sb S : Nat → Prop) (B k : Nat) (W : World) : Exit → Act → World → Prop
  | .normal, _, W' => I S (k + 1) W' ∧ Mod (fun b => Sb b ∨ (B ≤ b ∧ ¬ S b)) W W'
  | .ret, _, W' => Ix .ret S (k + 1) W' ∧ Mod (fun b => Sb b ∨ (B ≤ b ∧ ¬ S b)) W W'
  | .exit id, _, W' => Ix (.exit id) S (k + 1) W' ∧ Mod (fun b => Sb b ∨ (B ≤ b ∧ ¬ S b)) W W'
  | .goto t, _, W' => Ix (.goto t) S (k + 1) W' ∧ Mod (fun b => Sb b ∨ (B ≤ b ∧ ¬ S b)) W W'
  | .panic _, _, _ => False
  | .outgrown, _, _ => False

variable {P : Program}
/-- The law of the loop. The two blocks from w's end on are the loop's own. -/
theorem range_law {g : Operand} {ps : Array Tmp} {assign body : Code} {Q : Exit → Act → World → Prop} {a : Act} {w : World}
    {gf : Nat} {lb : Array Value} (hg : a.eval g = .func (.func gf) #[] lb) (eg : Enters P gf) (n : Nat) (enc : Nat → Array Value) (Own Prot Sb : Nat → Prop)
    (hit : ∀ W, Below w.heap.size w W → W.heap.size = w.heap.size + 2 → Iter P gf lb n enc W Own Prot)
    (hOwn : ∀ k, Own k → k < w.heap.size) (hProt : ∀ k, Prot k → k < w.heap.size) (hSb : ∀ k, Sb k → k < w.heap.size ∧ ¬ Prot k) (hps : ∀ k, (enc k).size = ps.size)
    (I : (Nat → Prop) → Nat → World → Prop) (Ix : Code → (Nat → Prop) → Nat → World → Prop)
    (hI : ∀ (S S' : Nat → Prop) k W W', I S k W → (∀ b, S b → w.heap.size + 2 ≤ b) → (∀ b, S' b → S b ∨ W.heap.size ≤ b) → Mod (fun b => Own b ∨ S b ∨ b = w.heap.size ∨ b = w.heap.size + 1) W W' → I S' k W')
    (hIx : ∀ c (S S' : Nat → Prop) k W W', Ix c S k W → (∀ b, S b → w.heap.size + 2 ≤ b) → (∀ b, S' b → S b ∨ W.heap.size ≤ b) → Mod (fun b => Own b ∨ S b ∨ b = w.heap.size ∨ b = w.heap.size + 1) W W' → Ix c S' k W')
    (h0 : ∀ S W, (∀ b, S b → w.heap.size + 2 ≤ b) → Mod Own w W → w.heap.size + 2 ≤ W.heap.size → I S 0 W)
    (hround : ∀ S k W, k < n → (∀ b, S b → w.heap.size + 2 ≤ b ∧ b < W.heap.size) → I S k W →
      assign.wpIn (Fence.wide.inRound (w.heap.size + 1)) 3 P (Exit.then (fun a₁ w₁ => Mod (fun b => Sb b ∨ (w.heap.size + 2 ≤ b ∧ ¬ S b)) W w₁ ∧ ∀ w₂, Mod (fun b => b = w.heap.size + 1) w₁ w₂ → w₂.heap.size = w₁.heap.size → body.wpIn (Fence.wide.inRound (w.heap.size + 1)) 3 P (rpost I Ix Sb S (w.heap.size + 2) k w₂) a₁ w₂) (fun _ _ _ => False))
        { tmps := (ps.zip (enc k)).foldl (fun t (p, v) => t.setIfInBounds p v) a.tmps, defers := [] } W)
    (hdone : ∀ S W, (∀ b, S b → w.heap.size + 2 ≤ b) → I S n W → W.heap[w.heap.size]? = some (.deferred (some [])) → Q .normal { a with defers := { target := .collected w.heap.size, args := #[] } :: a.defers } W)
    (hstop : ∀ c S k W, (∀ b, S b → w.heap.size + 2 ≤ b) → Ix c S k W → W.heap[w.heap.size]? = some (.deferred (some [])) → c.wpIn Fence.wide 3 P Q { a with defers := { target := .collected w.heap.size, args := #[] } :: a.defers } W) :
    (Code.rangeFunc g ps assign body).wpIn Fence.wide 3 P Q a w := by
  refine wpIn_rangeFunc ?_
  intro fn hfn
  obtain ⟨rec, hrec⟩ : ∃ rec : LoopState → Option Code → Loop, rec = fun st pe => { state := st, pending := pe, fn, tmps := a.tmps, params := ps, assign, body, defers := w.heap.size } := ⟨_, rfl⟩
  obtain ⟨W1, hW1⟩ : ∃ W1, (w.alloc (.deferred (some []))).alloc (.loop (rec .ready none)) = W1 := ⟨_, rfl⟩
  have hL1 : W1.heap[w.heap.size + 1]? = some (.loop (rec .ready none)) := by
    rw [← hW1]; have := heap_alloc_new (w.alloc (.deferred (some []))) (.loop (rec .ready none)); rwa [World.size_alloc] at this
  have hK1 : W1.heap[w.heap.size]? = some (.deferred (some [])) := by
    rw [← hW1]; exact (Below.heap_alloc _ _ _ (by simp)).trans (heap_alloc_new w _)
  have hb1 : Below w.heap.size w W1 := by rw [← hW1]; exact bl_alloc (bl_alloc bl_refl)
  have hsz : W1.heap.size = w.heap.size + 2 := by rw [← hW1]; simp
  refine ⟨w.heap.size + 1, [{ target := .collected w.heap.size, args := #[] }], W1, { target := .fn (.func gf) lb, args := #[.func (.yield (w.heap.size + 1)) #[] #[]] }, W1, gf,
    #[.func (.yield (w.heap.size + 1)) #[] #[]] ++ lb, W1, ?_, ?_, fun _ _ => trivial, ?_, fun h => by simp [Fence.wide] at h, ?_⟩
  · rw [← hW1, hrec]; exact run_enterLoop_outer _ _ _ _ _
  · simp only [resolve, hg]
    simp [go_sem]
  · simp [invoke, go_sem]
    exact eg _ _
  · have hSz : ∀ {S : Nat → Prop}, (∀ b, S b → W1.heap.size ≤ b) → ∀ b, S b → w.heap.size + 2 ≤ b := fun h b hb => by have := h b hb; omega
    have noS : ∀ {S : Nat → Prop}, (∀ b, S b → w.heap.size + 2 ≤ b) → ¬ (Own (w.heap.size + 1) ∨ S (w.heap.size + 1)) ∧ ¬ (Own w.heap.size ∨ S w.heap.size) := fun hS =>
      ⟨fun h => by rcases h with h | h; (have := hOwn _ h; omega); (have := hS _ h; omega), fun h => by rcases h with h | h; (have := hOwn _ h; omega); (have := hS _ h; omega)⟩
    refine callsIn_wide.2 ((callsIn_wide (n := 3)).1 (CallsIn.mono (hit W1 hb1 hsz (w.heap.size + 1) (fun b => Sb b ∨ b = w.heap.size + 1) ?_
      (fun S k W => I S k W ∧ W.heap[w.heap.size + 1]? = some (.loop (rec .ready none)) ∧ W.heap[w.heap.size]? = some (.deferred (some [])) ∧ ∀ b, S b → w.heap.size + 2 ≤ b)
      (fun S k W => ∃ c, Ix c S k W ∧ W.heap[w.heap.size + 1]? = some (.loop (rec .done (some c))) ∧ W.heap[w.heap.size]? = some (.deferred (some [])) ∧ ∀ b, S b → w.heap.size + 2 ≤ b) ?_ ?_ ?_ ?_) ?_))
    · rintro k (hk | rfl)
      · exact ⟨(hSb k hk).2, by have := (hSb k hk).1; omega⟩
      · exact ⟨fun h => by have := hProt _ h; omega, by omega⟩
    · intro S W hm hS
      have hW := hm.size
      exact ⟨h0 S W (hSz hS) ((Mod.of_bl hb1).trans hm) (by omega), hm.heap hL1 (fun h => by have := hOwn _ h; omega), hm.heap hK1 (fun h => by have := hOwn _ h; omega), hSz hS⟩
    · rintro S S' k W W' ⟨hi, hl, hd, hN⟩ hSS hm
      have h1 := (Array.getElem?_eq_some_iff.1 hl).1
      exact ⟨hI S S' k W W' hi hN hSS (hm.wide fun b hb => by rcases hb with h | h; exact .inl h; exact .inr (.inl h)), hm.heap hl (noS hN).1, hm.heap hd (noS hN).2, fun b hb => by rcases hSS b hb with h | h; exact hN b h; omega⟩
    · rintro S S' k W W' ⟨c, hi, hl, hd, hN⟩ hSS hm
      have h1 := (Array.getElem?_eq_some_iff.1 hl).1
      exact ⟨c, hIx c S S' k W W' hi hN hSS (hm.wide fun b hb => by rcases hb with h | h; exact .inl h; exact .inr (.inl h)), hm.heap hl (noS hN).1, hm.heap hd (noS hN).2, fun b hb => by rcases hSS b hb with h | h; exact hN b h; omega⟩
    · rintro S k W hk ⟨hi, hl, hd, hN⟩ hS
      have hy := run_yield (P := P) (args := enc k) hl (by rw [hrec]; exact hps k)
      rw [hrec] at hy
      refine ⟨fn, _, assign, body, hy, roundIn_of_wpIn hfn (wpIn_mono (hround S k W hk (fun b hb => ⟨hN b hb, (hS b hb).2⟩) hi) ?_)⟩
      rintro e a₁ w₁ hp
      have no1 : ¬ (Sb (w.heap.size + 1) ∨ (w.heap.size + 2 ≤ w.heap.size + 1 ∧ ¬ S (w.heap.size + 1))) := fun h => by
        rcases h with h | h
        · have := (hSb _ h).1; omega
        · omega
      have no2 : ¬ (Sb w.heap.size ∨ (w.heap.size + 2 ≤ w.heap.size ∧ ¬ S w.heap.size)) := fun h => by
        rcases h with h | h
        · have := (hSb _ h).1; omega
        · omega
      cases e with
      | normal =>
        obtain ⟨hm1, hbody⟩ := hp
        have hl1 : w₁.heap[w.heap.size + 1]? = some (.loop (rec .ready none)) := hm1.heap hl no1
        have hd1 : w₁.heap[w.heap.size]? = some (.deferred (some [])) := hm1.heap hd no2
        refine ⟨_, run_beginRound hl1 (by rw [hrec]), wpIn_mono (hbody _ (Mod.putObj _ rfl) (by simp)) ?_⟩
        have hlt : w.heap.size + 1 < w₁.heap.size := (Array.getElem?_eq_some_iff.1 hl1).1
        have hl2 : (w₁.putObj (w.heap.size + 1) (.loop { rec .ready none with state := .busy })).heap[w.heap.size + 1]? = some (.loop { rec .ready none with state := .busy }) := World.putObj_heap_same hlt
        have hd2 : (w₁.putObj (w.heap.size + 1) (.loop { rec .ready none with state := .busy })).heap[w.heap.size]? = some (.deferred (some [])) := (World.putObj_heap_other (by omega)).trans hd1
        have fin : ∀ (jump : Option Code) (W3 : World), Mod (fun b => Sb b ∨ (w.heap.size + 2 ≤ b ∧ ¬ S b)) (w₁.putObj (w.heap.size + 1) (.loop { rec .ready none with state := .busy })) W3 →
            (Instr.endRound (w.heap.size + 1) jump).run P W3 = .ok (.bool jump.isNone) (W3.putObj (w.heap.size + 1) (.loop (rec (if jump.isNone then .ready else .done) jump))) ∧
            (W3.putObj (w.heap.size + 1) (.loop (rec (if jump.isNone then .ready else .done) jump))).heap[w.heap.size + 1]? = some (.loop (rec (if jump.isNone then .ready else .done) jump)) ∧
            (W3.putObj (w.heap.size + 1) (.loop (rec (if jump.isNone then .ready else .done) jump))).heap[w.heap.size]? = some (.deferred (some [])) ∧
            Mod (fun b => (Sb b ∨ b = w.heap.size + 1) ∨ (W1.heap.size ≤ b ∧ ¬ S b)) W (W3.putObj (w.heap.size + 1) (.loop (rec (if jump.isNone then .ready else .done) jump))) ∧
            Mod (fun b => Own b ∨ S b ∨ b = w.heap.size ∨ b = w.heap.size + 1) W3 (W3.putObj (w.heap.size + 1) (.loop (rec (if jump.isNone then .ready else .done) jump))) := fun jump W3 hk3 => by
          have hl3 := hk3.heap hl2 no1
          have := run_endRound (P := P) jump hl3
          refine ⟨by rw [hrec] at this ⊢; exact this, World.putObj_heap_same (Array.getElem?_eq_some_iff.1 hl3).1, (World.putObj_heap_other (by omega)).trans (hk3.heap hd2 no2), ?_, Mod.putObj _ (.inr (.inr (.inr rfl)))⟩
          have wd : ∀ b, Sb b ∨ (w.heap.size + 2 ≤ b ∧ ¬ S b) → (Sb b ∨ b = w.heap.size + 1) ∨ (W1.heap.size ≤ b ∧ ¬ S b) := fun b hb => by rw [hsz]; rcases hb with h | h; exact .inl (.inl h); exact .inr h
          exact (((hm1.wide wd).trans (Mod.putObj _ (.inl (.inr rfl)))).trans (hk3.wide wd)).trans (Mod.putObj _ (.inl (.inr rfl)))
        rintro e a3 W3 hp3
        cases e with
        | normal =>
          obtain ⟨hi3, hk3⟩ := hp3
          obtain ⟨hr, hl4, hd4, hm4, hm5⟩ := fin none W3 hk3
          exact ⟨_, _, hr, .inl ⟨rfl, ⟨hI _ S _ _ _ hi3 hN (fun b h => .inl h) hm5, hl4, hd4, hN⟩, hm4⟩⟩
        | ret =>
          obtain ⟨hi3, hk3⟩ := hp3
          obtain ⟨hr, hl4, hd4, hm4, hm5⟩ := fin (some .ret) W3 hk3
          exact ⟨_, _, hr, .inr ⟨rfl, .ret, hIx _ _ S _ _ _ hi3 hN (fun b h => .inl h) hm5, hl4, hd4, hN⟩⟩
        | exit id =>
          obtain ⟨hi3, hk3⟩ := hp3
          obtain ⟨hr, hl4, hd4, hm4, hm5⟩ := fin (some (.exit id)) W3 hk3
          exact ⟨_, _, hr, .inr ⟨rfl, .exit id, hIx _ _ S _ _ _ hi3 hN (fun b h => .inl h) hm5, hl4, hd4, hN⟩⟩
        | goto t =>
          obtain ⟨hi3, hk3⟩ := hp3
          obtain ⟨hr, hl4, hd4, hm4, hm5⟩ := fin (some (.goto t)) W3 hk3
          exact ⟨_, _, hr, .inr ⟨rfl, .goto t, hIx _ _ S _ _ _ hi3 hN (fun b h => .inl h) hm5, hl4, hd4, hN⟩⟩
        | panic ch => exact hp3.elim
        | outgrown => exact hp3.elim
      | exit id => exact hp.elim
      | goto t => exact hp.elim
      | ret => exact hp.elim
      | panic ch => exact hp.elim
      | outgrown => exact hp.elim
    · rintro e W2 ⟨⟨v, rfl⟩, S, hS, (⟨hi, hl, hd, hN⟩ | ⟨k, c, hi, hl, hd, hN⟩)⟩
      · exact ⟨none, _, by have := run_endLoop (P := P) hl (by rw [hrec]; simp); rw [hrec] at this; exact this,
          hdone S _ hN (hI _ S _ _ _ hi hN (fun b h => .inl h) (Mod.putObj _ (.inr (.inr (.inr rfl))))) ((World.putObj_heap_other (by omega)).trans hd)⟩
      · exact ⟨some c, _, by have := run_endLoop (P := P) hl (by rw [hrec]; simp); rw [hrec] at this; exact this,
          hstop c S k _ hN (hIx _ _ S _ _ _ hi hN (fun b h => .inl h) (Mod.putObj _ (.inr (.inr (.inr rfl))))) ((World.putObj_heap_other (by omega)).trans hd)⟩

end Go.Proofs.Ytdbogephaddbjaa
