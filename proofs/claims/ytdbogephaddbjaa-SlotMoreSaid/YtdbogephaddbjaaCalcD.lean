/- calc.plain, calc.Max. -/
import Derived.Test.YtdbogephaddbjaaCalcB
import Derived.Laws.EntriesVeiled
import Derived.Tactics
import Derived.Tactics2
import Derived.WalkKit
import Derived.LoopTactic
import Derived.WalkLawsBesides
import Derived.WalkSpells
import Derived.Outline
import Derived.Deep.QuietTactic
import Derived.BigQuiet
import Derived.Deep.DeepCutAuto
import Derived.Deep.LoopGhost
import Derived.Deep.RegionHeld3
import Derived.RegionTactic
import Derived.KernelRfl
import Derived.Lib.Hide
set_option linter.unusedVariables false
set_option linter.unusedSimpArgs false
namespace Go.Proofs.Ytdbogephaddbjaa
open Go.RowKit
attribute [local go_sem] Oper.semAt_some

set_option maxHeartbeats 400000 in
theorem calc_plain (g : Nat) (w : World) : Calls Try.prog 30 #[.func (.func g) #[] #[]] w fun e w' =>
    e = .returned (.agg #[.func (.func 57) #[] #[.pointer (some ⟨w.heap.size, 0, none⟩)]]) ∧ Below w.heap.size w w' ∧ Bx w' w.heap.size [.func (.func g) #[] #[]] := by
  have h1 : ∀ t, ((w.alloc (.cells #[.func (.func g) #[] #[]] t)).alloc (.cells #[.nilFunc] 71)).cell? ⟨w.heap.size + 1, 0, none⟩ = some .nilFunc := fun t => by
    have := (Bx.new (w.alloc (.cells #[.func (.func g) #[] #[]] t)) [.nilFunc] 71).cell 0 rfl
    rwa [World.size_alloc] at this
  have h2 : ∀ t, ((w.alloc (.cells #[.func (.func g) #[] #[]] t)).alloc (.cells #[.nilFunc] 71)).frozen? ⟨w.heap.size + 1, 0, none⟩ = false := fun t => by
    have := (Bx.new (w.alloc (.cells #[.func (.func g) #[] #[]] t)) [.nilFunc] 71).free 0 rfl
    rwa [World.size_alloc] at this
  go_enter Try.func30, Try.ntmps30
  go_wp2
  exact bodyPost_ret (v := .agg #[.func (.func 57) #[] #[.pointer (some ⟨w.heap.size, 0, none⟩)]]) (by simp [results, Try.results30, go_sem, h1, h2]) rfl
    ⟨rfl, by (repeat (first | exact bl_refl | assumption | apply bl_alloc | apply bl_drew | apply bl_drewN | (apply bl_set; (case hp => first | (simp; done) | (simp; omega))) | (apply bl_trans2; (case k => assumption)))), (Bx.new w [.func (.func g) #[] #[]] _).alloc _⟩

theorem vecmax_in : Enters Try.prog 31 := fun _ _ => by kernel_rfl
def maxV (a b : Vec) : Vec := ⟨max a.m b.m, max a.c b.c⟩
def maxF (F G : List Seg) : List Seg × Int := madeF (fun a b => (maxV a b, 0)) F G

set_option maxHeartbeats 1000000 in
theorem calc_max (A A' : Option Addr) (F G : List Seg) (c c' : Nat) (w : World) (hn : F.length + G.length ≤ 100000) (hF : Segs w w.heap.size A F) (hG : Segs w w.heap.size A' G) (hcF : F.length ≤ c) (hcG : G.length ≤ c') :
    Calls Try.prog 11 #[.slice A F.length c, .slice A' G.length c'] w (SegErr w (maxF F G)) := by
  have hm : ∀ W, Below w.heap.size w W → w.heap.size < W.heap.size → Bx W w.heap.size [.func (.func 31) #[] #[]] → Calls Try.prog 32 #[.agg #[.func (.func 57) #[] #[.pointer (some ⟨w.heap.size, 0, none⟩)]], .slice A F.length c, .slice A' G.length c'] W (SegErr W (maxF F G)) := fun W hW hz hx =>
    calc_made 57 #[.pointer (some ⟨w.heap.size, 0, none⟩)] (fun a b => (maxV a b, 0)) plain1_in A A' F G c c' W hn (hF.bl hW) (hG.bl hW) hcF hcG (fun m c m' c' W' hW' =>
      plain1 w.heap.size 31 maxV vecmax_in m c m' c' W' (hx.bl hW') (fun m c m' c' W2 => vec_max m c m' c' W2))
  clear hF hG
  go_enter Try.func11, Try.ntmps11
  go_wp2_with (first
    | (go_at_call 30; refine (calc_plain _ _).mono ?_; rintro e w1 ⟨rfl, hb1, hx1⟩; have hz1 := hx1.lt)
    | (go_at_call 32; refine (hm _ hb1 hz1 hx1).mono ?_; clear hm; rintro e w2 ⟨⟨v, rfl, hown⟩, hb2⟩; obtain ⟨A3, c3, rfl⟩ := hown.form))
  go_ret2
  exact ⟨⟨_, rfl, hown.mono (by omega)⟩, bl_trans hb1 hb2⟩

end Go.Proofs.Ytdbogephaddbjaa
