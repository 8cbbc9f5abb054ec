/- calc's joint of two functions, Max. -/
import Derived.Test.YtdbogephaddbjaaCalcA
import Derived.Test.YtdbogephaddbjaaCalcM
import Derived.Maps.OwnIn
import Derived.Tactics
import Derived.Tactics2
import Derived.WalkKit
import Derived.LoopTactic
import Derived.WalkLawsBesides
import Derived.WalkSpells
import Derived.Outline
import Derived.Deep.QuietTactic
import Derived.BigQuiet
import Derived.Deep.DeepCutAuto
import Derived.Deep.LoopGhost
import Derived.Deep.RegionHeld3
import Derived.RegionTactic
import Derived.KernelRfl
import Derived.Lib.Hide
set_option linter.unusedVariables false
set_option linter.unusedSimpArgs false
namespace Go.Proofs.Ytdbogephaddbjaa
open Go.RowKit
attribute [local go_sem] Oper.semAt_some

theorem both_iter (Bf bf bg : Nat) (hne : bf ≠ bg) (hBf : Bf ≤ bf) (hBg : Bf ≤ bg) (F G : List Seg) (hn : F.length + G.length ≤ 1000000) (W0 : World) (Af Ag : Option Addr) (cf cg : Nat)
    (h1 : Bx W0 bf [.slice Af F.length cf]) (h2 : Bx W0 bg [.slice Ag G.length cg]) (hF : Segs W0 Bf Af F) (hG : Segs W0 Bf Ag G) (hcf : F.length ≤ cf) (hcg : G.length ≤ cg) :
    Iter Try.prog 82 #[.pointer (some ⟨bf, 0, none⟩), .pointer (some ⟨bg, 0, none⟩)] (bothF F G).length (encB (bothF F G)) W0 (fun k => k = bf ∨ k = bg) (fun k => k < Bf ∨ k = bf ∨ k = bg) := by
  intro l Sb hSb J Jx h0 hJ hJx hY
  refine (both1_in l Bf bf bg hne hBf hBg F G hn W0 h1.lt h2.lt Af Ag cf cg
    ⟨h1.alloc _, h2.alloc _, Bx.new W0 [.int .i64 0, .int .i64 0, .int .i64 0, .int .i64 0] _, hF, hG, hcf, hcg, (Below.refl _ _).alloc (by have := h1.lt; omega) _⟩ Sb
    (fun k hk => by have := hSb k hk; have h2 := this.2; rintro (h | h | h | h); exact this.1 (.inl h); exact this.1 (.inr (.inl h)); exact this.1 (.inr (.inr h)); omega)
    (fun N k W => J (fun b => W0.heap.size ≤ b ∧ b < N) k W) (fun N k W => Jx (fun b => W0.heap.size ≤ b ∧ b < N) k W)
    (fun N W hm hN hN' => h0 _ W hm fun b hb => hb.1) (fun N k W W' hj hm => hJ _ _ k W W' hj (fun b hb => .inl hb) hm) (fun N k W W' hj hm => hJx _ _ k W W' hj (fun b hb => .inl hb) hm) ?_).mono ?_
  · intro N k W hk hj hN hN'
    refine YieldAt.mono (hY _ k W hk hj fun b hb => ⟨hb.1, by omega⟩) ?_
    rintro e W' (⟨he, hj', hm⟩ | h)
    · exact .inl ⟨he, hj', hm.wide fun b hb => by rcases hb with h | h; exact .inl h; exact .inr (by omega)⟩
    · exact .inr h
  · rintro e W' ⟨hv, N, hN, h⟩
    exact ⟨hv, _, fun b hb => hb.1, h⟩

set_option maxHeartbeats 400000 in
theorem calc_both (A A' : Option Addr) (n c n' c' : Nat) (w : World) :
    Calls Try.prog 60 #[.slice A n c, .slice A' n' c'] w fun e w' => e = .returned (.func (.func 82) #[] #[.pointer (some ⟨w.heap.size, 0, none⟩), .pointer (some ⟨w.heap.size + 1, 0, none⟩)]) ∧ w' = (w.alloc (.cells #[.slice A n c] 22)).alloc (.cells #[.slice A' n' c'] 22) := by
  go_enter Try.func60, Try.ntmps60
  go_wp2
  go_ret
  exact ⟨rfl, rfl⟩
theorem both1_enters : Enters Try.prog 82 := fun _ _ => by kernel_rfl

/-- What a joint makes of two functions. -/
def rawF (φ : Vec → Vec → Vec × Int) (l : List (Int × Vec × Vec)) : List Seg := l.map fun x => ⟨x.1, (φ x.2.1 x.2.2).1⟩
def errF (φ : Vec → Vec → Vec × Int) (l : List (Int × Vec × Vec)) : Int :=
  match l with
  | [] => 0
  | x :: xs => if (φ x.2.1 x.2.2).2 = 0 then errF φ xs else (φ x.2.1 x.2.2).2
def madeF (φ : Vec → Vec → Vec × Int) (F G : List Seg) : List Seg × Int :=
  if mayF F && mayF G then (if errF φ (bothF F G) = 0 then ofF (rawF φ (bothF F G)) else ([], errF φ (bothF F G))) else ([], 5)
theorem bothL_len (k : Nat) : ∀ s, (bothL k s).length ≤ k := by
  induction k with
  | zero => intro s; simp [bothL]
  | succ k ih =>
    intro s
    unfold bothL
    split
    · simp
    · simp [ih]

theorem errF_snoc (φ : Vec → Vec → Vec × Int) (x : Int × Vec × Vec) (r : List (Int × Vec × Vec)) : ∀ l, errF φ l = 0 → errF φ (l ++ x :: r) = if (φ x.2.1 x.2.2).2 = 0 then errF φ r else (φ x.2.1 x.2.2).2
  | [], _ => rfl
  | y :: ys, h => by
    unfold errF at h
    show (if (φ y.2.1 y.2.2).2 = 0 then errF φ (ys ++ x :: r) else _) = _
    by_cases hy : (φ y.2.1 y.2.2).2 = 0
    · rw [if_pos hy] at h ⊢
      exact errF_snoc φ x r ys h
    · rw [if_neg hy] at h
      exact absurd h hy
/-- What made keeps between two rounds. -/
structure MadeInv (w : World) (N r : Nat) (g : Nat) (caps : Array Value) (φ : Vec → Vec → Vec × Int) (l : List (Int × Vec × Vec)) (S : Nat → Prop) (k : Nat) (W : World) : Prop where
  lo : Below w.heap.size w W
  sz : N ≤ W.heap.size
  j : Bx W w.heap.size [.func (.func g) #[] caps]
  r1 : Bx W (w.heap.size + 1) [.slice none 0 0]
  r2 : Bx W (w.heap.size + 1 + 1) [.int .i64 0]
  raw : ∃ v, Bx W r [v] ∧ OwnSegs W N v (rawF φ (l.take k)) ∧ ∀ b, v.ownBlock = some b → b < W.heap.size ∧ ¬ S b
  ok : errF φ (l.take k) = 0
/-- What it leaves where the joint has an error. -/
structure MadeBad (w : World) (φ : Vec → Vec → Vec × Int) (l : List (Int × Vec × Vec)) (c : Code) (W : World) : Prop where
  c : c = .ret
  lo : Below w.heap.size w W
  r1 : Bx W (w.heap.size + 1) [.slice none 0 0]
  r2 : Bx W (w.heap.size + 1 + 1) [.int .i64 (errF φ l)]
  bad : errF φ l ≠ 0
theorem split_get {α : Type} : ∀ (l : List α) (k : Nat) (x : α), l[k]? = some x → l = l.take k ++ x :: l.drop (k + 1)
  | [], k, x, h => by simp at h
  | y :: ys, 0, x, h => by injection h with h; subst h; rfl
  | y :: ys, k + 1, x, h => by
    have := split_get ys k x (by simpa using h)
    show y :: ys = y :: (ys.take k ++ x :: ys.drop (k + 1))
    rw [← this]
theorem zip2_fold (p q : Nat) (u v : Value) (t : Array Value) : ((#[p, q] : Array Tmp).zip #[u, v]).foldl (fun t (p, v) => t.setIfInBounds p v) t = (t.setIfInBounds p u).setIfInBounds q v := by
  simp [Array.zip_eq_zipWith]
theorem OwnSegs.mod {M : Nat → Prop} {W W' : World} {base : Nat} {v : Value} {L : List Seg} (h : OwnSegs W base v L) (hm : Mod M W W') (hn : ∀ k, v.ownBlock = some k → ¬ M k) : OwnSegs W' base v L :=
  ⟨h.1, h.2.imp id fun ⟨g, cap, cur, hv, hb, hh, r⟩ => ⟨g, cap, cur, hv, hb, hm.heap hh (hn g (by subst hv; rfl)), r⟩⟩

set_option maxRecDepth 100000 in
set_option maxHeartbeats 8000000 in
theorem calc_made (g : Nat) (caps : Array Value) (φ : Vec → Vec → Vec × Int) (hg : Enters Try.prog g) (A A' : Option Addr) (F G : List Seg) (c c' : Nat) (w : World) (hn : F.length + G.length ≤ 100000) (hF : Segs w w.heap.size A F) (hG : Segs w w.heap.size A' G) (hcF : F.length ≤ c) (hcG : G.length ≤ c')
    (hdo : ∀ m c m' c' W, Below w.heap.size w W → Calls Try.prog g (#[.agg #[.int .i64 m, .int .i64 c], .agg #[.int .i64 m', .int .i64 c']] ++ caps) W fun e W' =>
      e = .returned (.tuple #[.agg #[.int .i64 (φ ⟨m, c⟩ ⟨m', c'⟩).1.m, .int .i64 (φ ⟨m, c⟩ ⟨m', c'⟩).1.c], .int .i64 (φ ⟨m, c⟩ ⟨m', c'⟩).2]) ∧ Below W.heap.size W W') :
    Calls Try.prog 32 #[.agg #[.func (.func g) #[] caps], .slice A F.length c, .slice A' G.length c'] w (SegErr w (madeF φ F G)) := by
  have hmay := fun (W : World) (b : Nat) (hW : Below w.heap.size w W) (h0 : W.cell? ⟨b, 0, none⟩ = some (.slice A F.length c)) (h1 : W.cell? ⟨b, 1, none⟩ = some (.slice A' G.length c')) =>
    calc_may b 0 2 [(A, F, c), (A', G, c')] W (by simp) (fun i x hx => by
      match i, hx with
      | 0, hx => injection hx with hx; subst hx; exact ⟨by simp; omega, h0, hF.bl hW⟩
      | 1, hx => injection hx with hx; subst hx; exact ⟨by simp; omega, h1, hG.bl hW⟩)
  refine (callsIn_wide (n := 3)).1 ?_
  refine callsIn_of_wp_marks Try.func32 rfl trivial ?_
  simp only [Try.ntmps32, List.size_toArray, List.length_cons, List.length_nil, Nat.reduceAdd, Nat.reduceSub, Array.replicate_succ, Array.replicate_zero, List.push_toArray, List.append_toArray, List.nil_append, List.cons_append]
  obtain ⟨W4, hW4⟩ : ∃ W4, ((((w.alloc (.cells #[.func (.func g) #[] caps] 71)).alloc (.cells #[.slice none 0 0] 22)).alloc (.cells #[.int .i64 0] 32)).alloc (.cells #[.slice A F.length c, .slice A' G.length c'] 22)) = W4 := ⟨_, rfl⟩
  have x0 : Bx W4 w.heap.size [.func (.func g) #[] caps] := by
    rw [← hW4]; exact (((Bx.new w [.func (.func g) #[] caps] _).alloc _).alloc _).alloc _
  have x1 : Bx W4 (w.heap.size + 1) [.slice none 0 0] := by
    have := Bx.new (w.alloc (.cells #[.func (.func g) #[] caps] 71)) [.slice none 0 0] 22
    rw [World.size_alloc] at this
    rw [← hW4]; exact (this.alloc _).alloc _
  have x2 : Bx W4 (w.heap.size + 1 + 1) [.int .i64 0] := by
    have := Bx.new ((w.alloc (.cells #[.func (.func g) #[] caps] 71)).alloc (.cells #[.slice none 0 0] 22)) [.int .i64 0] 32
    rw [World.size_alloc, World.size_alloc] at this
    rw [← hW4]; exact this.alloc _
  have hB4 : Below w.heap.size w W4 := by rw [← hW4]; (repeat (first | exact bl_refl | assumption | apply bl_alloc | apply bl_drew | apply bl_drewN | (apply bl_set; (case hp => first | (simp; done) | (simp; omega))) | (apply bl_trans2; (case k => assumption))))
  have hz4 : W4.heap.size = w.heap.size + 4 := by rw [← hW4]; simp
  have hmay' : Calls Try.prog 43 #[.slice (some ⟨w.heap.size + 1 + 1 + 1, 0, none⟩) 2 2] W4 fun e w' => e = .returned (.bool (mayF F && mayF G)) ∧ Below W4.heap.size W4 w' := by
    have hx := Bx.new (((w.alloc (.cells #[.func (.func g) #[] caps] 71)).alloc (.cells #[.slice none 0 0] 22)).alloc (.cells #[.int .i64 0] 32)) [.slice A F.length c, .slice A' G.length c'] 22
    rw [World.size_alloc, World.size_alloc, World.size_alloc] at hx
    rw [hW4] at hx
    have := hmay W4 _ hB4 (hx.cell 0 rfl) (hx.cell 1 rfl)
    simpa only [List.all_cons, List.all_nil, Bool.and_true, List.length_cons, List.length_nil, Nat.reduceAdd] using this
  have hmay2 : Calls Try.prog 43 #[.slice (some ⟨w.heap.size + 1 + 1 + 1, 0, none⟩) 2 2] W4 fun e w' => e = .returned (.bool (mayF F && mayF G)) ∧ Below w.heap.size w w' ∧ w.heap.size + 4 ≤ w'.heap.size ∧ Bx w' w.heap.size [.func (.func g) #[] caps] ∧ Bx w' (w.heap.size + 1) [.slice none 0 0] ∧ Bx w' (w.heap.size + 1 + 1) [.int .i64 0] :=
    hmay'.mono fun e w' h => ⟨h.1, bl_trans hB4 h.2, by have := h.2.size; omega, x0.bl h.2, x1.bl h.2, x2.bl h.2⟩
  clear hmay hmay' x0 x1 x2 hB4 hz4
  subst hW4
  cases hm : (mayF F && mayF G) with
  | false =>
    have hr : madeF φ F G = ([], 5) := by unfold madeF; rw [hm]; rfl
    rw [hr]
    rw [hm] at hmay2
    clear hr hm hdo hF hG hg
    gi_wp2_with (refine ⟨trivial, ?_⟩; gi_at_call 43; refine (callsIn_wide.2 hmay2).mono ?_; clear hmay2; rintro e w1 ⟨rfl, hb1, hz1, x0, x1, x2⟩; obtain ⟨p1, p2, p3⟩ := x1.one; obtain ⟨q1, q2, q3⟩ := x2.one; have X1 := Lib.hid (And.intro x0 (And.intro x1 x2)); clear x0 x1 x2)
    refine ⟨.tuple #[.slice none 0 0, .int .i64 5], by simp [results, Try.results32, go_sem, p1, p2, p3, q1, q2, q3], ⟨_, rfl, ⟨rfl, .inl ⟨rfl, rfl⟩⟩⟩, lo_set (lo_set hb1 (by omega)) (by omega)⟩
  | true =>
    rw [hm] at hmay2
    gi_wp2_with (first
      | (refine ⟨trivial, ?_⟩; gi_at_call 43; refine (callsIn_wide.2 hmay2).mono ?_; clear hmay2; rintro e w1 ⟨rfl, hb1, hz1, x0, x1, x2⟩)
      | (refine ⟨trivial, ?_⟩; gi_at_call 60; refine (callsIn_wide.2 (calc_both _ _ _ _ _ _ _)).mono ?_; rintro e w2 ⟨rfl, rfl⟩))
    obtain ⟨W2, hW2⟩ : ∃ W2, (((w1.alloc (.cells #[.slice none 0 0] 22)).alloc (.cells #[.slice A F.length c] 22)).alloc (.cells #[.slice A' G.length c'] 22)) = W2 := ⟨_, rfl⟩
    have hB : Below w1.heap.size w1 W2 := by rw [← hW2]; (repeat (first | exact bl_refl | assumption | apply bl_alloc | apply bl_drew | apply bl_drewN | (apply bl_set; (case hp => first | (simp; done) | (simp; omega))) | (apply bl_trans2; (case k => assumption))))
    have yr : Bx W2 w1.heap.size [.slice none 0 0] := by
      rw [← hW2]; exact ((Bx.new w1 [.slice none 0 0] _).alloc _).alloc _
    have yf : Bx W2 (w1.heap.size + 1) [.slice A F.length c] := by
      have := Bx.new (w1.alloc (.cells #[.slice none 0 0] 22)) [.slice A F.length c] 22
      rw [World.size_alloc] at this
      rw [← hW2]; exact this.alloc _
    have yg : Bx W2 (w1.heap.size + 1 + 1) [.slice A' G.length c'] := by
      have := Bx.new ((w1.alloc (.cells #[.slice none 0 0] 22)).alloc (.cells #[.slice A F.length c] 22)) [.slice A' G.length c'] 22
      rw [World.size_alloc, World.size_alloc] at this
      rw [← hW2]; exact this
    have hz2 : W2.heap.size = w1.heap.size + 3 := by rw [← hW2]; simp
    have y0 := x0.bl hB
    have y1 := x1.bl hB
    have y2 := x2.bl hB
    have hB2 := bl_trans hb1 hB
    rw [hW2]
    clear hW2 x0 x1 x2 hB
    refine range_law (gf := 82) (lb := #[.pointer (some ⟨w1.heap.size + 1, 0, none⟩), .pointer (some ⟨w1.heap.size + 1 + 1, 0, none⟩)]) rfl both1_enters (bothF F G).length (encB (bothF F G)) (fun k => k = w1.heap.size + 1 ∨ k = w1.heap.size + 1 + 1)
      (fun k => k < w.heap.size ∨ k = w1.heap.size + 1 ∨ k = w1.heap.size + 1 + 1) (fun k => k = w1.heap.size ∨ k = w.heap.size + 1 ∨ k = w.heap.size + 1 + 1) ?hit ?hOwn ?hProt ?hSb ?hps
      (MadeInv w (W2.heap.size + 2) w1.heap.size g caps φ (bothF F G)) (fun c _ _ W => MadeBad w φ (bothF F G) c W) ?hI ?hIx ?h0 ?hround ?hdone ?hstop
    case hit =>
      intro W hW hs
      exact both_iter w.heap.size (w1.heap.size + 1) (w1.heap.size + 1 + 1) (by omega) (by omega) (by omega) F G (by omega) W A A' c c' (yf.bl hW) (yg.bl hW) (hF.below (hB2.trans (hW.mono (by omega)))) (hG.below (hB2.trans (hW.mono (by omega)))) hcF hcG
    case hOwn => rintro k (rfl | rfl) <;> omega
    case hProt => rintro k (h | rfl | rfl) <;> omega
    case hSb => rintro k (rfl | rfl | rfl) <;> omega
    case hps =>
      intro k
      unfold encB
      split <;> rfl
    case hI =>
      rintro S S' k W W' hi hS hSS hM
      have no : ∀ b, b < W2.heap.size → ¬ (b = w1.heap.size + 1 ∨ b = w1.heap.size + 1 + 1) → ¬ ((b = w1.heap.size + 1 ∨ b = w1.heap.size + 1 + 1) ∨ S b ∨ b = W2.heap.size ∨ b = W2.heap.size + 1) := fun b hb hn h => by
        rcases h with h | h | h | h
        · exact hn h
        · have := hS b h; omega
        · omega
        · omega
      obtain ⟨v, v1, v2, v3⟩ := hi.raw
      refine ⟨hi.lo.trans (hM.below (by have := hi.sz; omega) ?_), by have := hM.size; have := hi.sz; omega, hi.j.mod hM (no _ (by omega) (by omega)), hi.r1.mod hM (no _ (by omega) (by omega)), hi.r2.mod hM (no _ (by omega) (by omega)),
        ⟨v, v1.mod hM (no _ (by omega) (by omega)), v2.mod hM ?_, fun b hb => ?_⟩, hi.ok⟩
      · rintro b ((h | h) | h | h | h)
        · omega
        · omega
        · have := hS b h; omega
        · omega
        · omega
      · intro b hb h
        have h1 := (v3 b hb)
        have h2 := v2.lt b hb
        rcases h with (h | h) | h | h | h
        · omega
        · omega
        · exact h1.2 h
        · omega
        · omega
      · have h1 := v3 b hb
        refine ⟨by have := hM.size; omega, fun h => ?_⟩
        rcases hSS b h with h | h
        · exact h1.2 h
        · omega
    case hIx =>
      rintro c S S' k W W' hi hS hSS hM
      have no : ∀ b, b < W2.heap.size → ¬ (b = w1.heap.size + 1 ∨ b = w1.heap.size + 1 + 1) → ¬ ((b = w1.heap.size + 1 ∨ b = w1.heap.size + 1 + 1) ∨ S b ∨ b = W2.heap.size ∨ b = W2.heap.size + 1) := fun b hb hn h => by
        rcases h with h | h | h | h
        · exact hn h
        · have := hS b h; omega
        · omega
        · omega
      refine ⟨hi.c, hi.lo.trans (hM.below (by have := hi.lo.size; omega) ?_), hi.r1.mod hM (no _ (by omega) (by omega)), hi.r2.mod hM (no _ (by omega) (by omega)), hi.bad⟩
      rintro b ((h | h) | h | h | h)
      · omega
      · omega
      · have := hS b h; omega
      · omega
      · omega
    case h0 =>
      rintro S W hS hM hz
      refine ⟨hB2.trans (hM.below (by omega) (by rintro b (h | h) <;> omega)), hz, y0.mod hM (by omega), y1.mod hM (by omega), y2.mod hM (by omega), ⟨_, yr.mod hM (by omega), ⟨rfl, .inl ⟨rfl, rfl⟩⟩, fun b hb => by cases hb⟩, rfl⟩
    case hround =>
      intro S k W hk hS hi
      have hx : (bothF F G)[k]? = some (bothF F G)[k] := List.getElem?_eq_getElem hk
      obtain ⟨x, hxx⟩ : ∃ x, (bothF F G)[k] = x := ⟨_, rfl⟩
      rw [hxx] at hx
      clear hxx
      obtain ⟨at_, ⟨a1, a2⟩, ⟨b1, b2⟩⟩ := x
      have henc : encB (bothF F G) k = #[.int .i64 at_, .agg #[.int .i64 a1, .int .i64 a2, .int .i64 b1, .int .i64 b2]] := by
        unfold encB
        rw [hx]
      rw [henc]
      have HI := Lib.hid (And.intro hi (And.intro hx hS))
      have HK := Lib.hid (And.intro hF (And.intro hG (And.intro hdo hg)))
      clear henc hx hi hS hF hG hdo hg yr yf yg y0 y1 y2
      simp only [zip2_fold, List.setIfInBounds_toArray, List.set_cons_succ, List.set_cons_zero]
      gi_wp2
      refine ⟨Mod.of_bl (bl_alloc bl_refl), ?_⟩
      intro w3 hM hz
      obtain ⟨hi, hx, hS⟩ := HI.out
      obtain ⟨hF, hG, hdo, hg⟩ := HK.out
      have hWs := hi.sz
      have j3 := (hi.j.alloc (.cells #[.int .i64 a1, .int .i64 a2, .int .i64 b1, .int .i64 b2] 106)).mod hM (by omega)
      have p3 := (Bx.new W [.int .i64 a1, .int .i64 a2, .int .i64 b1, .int .i64 b2] 106).mod hM (by omega)
      have s3 := (hi.r1.alloc (.cells #[.int .i64 a1, .int .i64 a2, .int .i64 b1, .int .i64 b2] 106)).mod hM (by omega)
      have t3 := (hi.r2.alloc (.cells #[.int .i64 a1, .int .i64 a2, .int .i64 b1, .int .i64 b2] 106)).mod hM (by omega)
      obtain ⟨v, v1, v2, v3⟩ := hi.raw
      have u3 := (v1.alloc (.cells #[.int .i64 a1, .int .i64 a2, .int .i64 b1, .int .i64 b2] 106)).mod hM (by omega)
      have o3 : OwnSegs w3 (W2.heap.size + 2) v (rawF φ ((bothF F G).take k)) := OwnSegs.mod (OwnSegs.mod v2 (Mod.alloc (S := fun _ => False) Mod.refl (.cells #[.int .i64 a1, .int .i64 a2, .int .i64 b1, .int .i64 b2] 106)) (fun _ _ h => h)) hM (fun b hb => by have := v2.lt b hb; omega)
      have l3 : Below w.heap.size w w3 := hi.lo.trans ((Below.refl _ _).alloc (by have := hi.lo.size; omega) _ |>.trans (hM.below (by have := hi.lo.size; simp; omega) (by rintro b rfl; omega)))
      have hd3 := hdo a1 a2 b1 b2 w3 l3
      rw [World.size_alloc] at hz
      have hok := hi.ok
      have HI3 := Lib.hid (And.intro hx (And.intro hS (And.intro hok (And.intro o3 (And.intro v3 (And.intro l3 (And.intro j3 (And.intro s3 (And.intro t3 u3)))))))))
      obtain ⟨k1, k2, k3⟩ := j3.one
      have g0 := p3.cell 0 rfl
      have g1 := p3.cell 1 rfl
      have g2 := p3.cell 2 rfl
      have g3 := p3.cell 3 rfl
      clear hi hx hS hF hG hdo hM s3 t3 v1 v2 v3 u3 o3 l3 hok j3 p3 HI
      have hg' := hg
      unfold Enters at hg'
      by_cases he : (φ ⟨a1, a2⟩ ⟨b1, b2⟩).2 = 0
      · have e1 : ((φ ⟨a1, a2⟩ ⟨b1, b2⟩).2 == 0) = true := by rw [he]; rfl
        have HE := Lib.hid he
        obtain ⟨hx, hS, hok, o3, v3, l3, j3, s3, t3, u3⟩ := HI3.out
        obtain ⟨A3, c3, rfl⟩ := o3.form
        obtain ⟨i0, hi, hz0, hz1, hz2'⟩ := info_parts info_seg
        have hlk : (rawF φ ((bothF F G).take k)).length = k := by simp [rawF]; omega
        have hlen : (bothF F G).length ≤ 100000 := by have := bothL_len (F.length + G.length) ⟨⟨0, 0⟩, ⟨0, 0⟩, F, G⟩; simp only [bothF]; omega
        rw [hlk] at o3 u3 v3
        have HO := Lib.hid (And.intro o3 (And.intro v3 (And.intro s3 (And.intro t3 (And.intro u3 (And.intro j3 (And.intro l3 hS)))))))
        have HLK := Lib.hid (And.intro hlk hlen)
        clear he hx hS hok o3 v3 l3 j3 s3 t3 u3 hlk hlen
        gi_wp2_with (first
          | (refine ⟨trivial, ?_⟩; refine (CallsIn.inRound _ (callsIn_wide.2 hd3)).mono ?_; clear hd3; rintro e w4 ⟨rfl, hb4⟩; obtain ⟨u41, u42, u43⟩ := (HO.out.2.2.2.2.1.bl hb4).one; obtain ⟨hc4, hf4⟩ := bcell hb4; have hz4 := hb4.size)
          | (gi_at_builtin; go_loud (refine wpListIn_append_own_at _ rfl _ _ 22 rfl (W2.heap.size + 2) 62 i0 _ 3 24 Try.underlying22 hi hz0 hz1 hz2' rfl (by decide) _ _ _ rfl ((OwnSegs.mod HO.out.1 (Mod.of_bl (S := fun _ => False) hb4) (fun _ _ h => h)).alloc _ |>.alloc _) ⟨w4.heap.size + 1, 0, none⟩ 1 1 [.int .i64 at_, .int .i64 (φ ⟨a1, a2⟩ ⟨b1, b2⟩).1.m, .int .i64 (φ ⟨a1, a2⟩ ⟨b1, b2⟩).1.c] rfl rfl ?c1 ?c2 ?c3 ?c4 ?c5 ?_)))
        case c1 =>
          intro j u hu
          rw [add_off]
          have hx := Bx.new (w4.alloc (.cells #[.int .i64 (φ ⟨a1, a2⟩ ⟨b1, b2⟩).1.m, .int .i64 (φ ⟨a1, a2⟩ ⟨b1, b2⟩).1.c] 51)) [.int .i64 at_, .int .i64 (φ ⟨a1, a2⟩ ⟨b1, b2⟩).1.m, .int .i64 (φ ⟨a1, a2⟩ ⟨b1, b2⟩).1.c] 62
          rw [World.size_alloc] at hx
          rw [Nat.zero_add]
          exact hx.cell j hu
        case c2 => exact fun u hu => segs_one [⟨at_, (φ ⟨a1, a2⟩ ⟨b1, b2⟩).1⟩] u (by simpa [flat, Seg.cells] using hu)
        case c3 => have := HLK.out; unfold maxLen; omega
        case c4 => have := HLK.out; omega
        case c5 => have := hb4.size; simp; omega
        intro v' w5 hown' hgrow hnil hat
        obtain ⟨g', cap', rfl⟩ := ownsRow_succ hown'
        have hM5 := Mod.of_grown hgrow
        obtain ⟨o3, v3, s3, t3, u3, j3, l3, hS⟩ := HO.out
        have hlt := fun b (hb : (Value.slice A3 k c3).ownBlock = some b) => o3.lt b hb
        have u5 := (((u3.bl hb4).alloc (.cells #[.int .i64 (φ ⟨a1, a2⟩ ⟨b1, b2⟩).1.m, .int .i64 (φ ⟨a1, a2⟩ ⟨b1, b2⟩).1.c] 51)).alloc (.cells #[.int .i64 at_, .int .i64 (φ ⟨a1, a2⟩ ⟨b1, b2⟩).1.m, .int .i64 (φ ⟨a1, a2⟩ ⟨b1, b2⟩).1.c] 62)).mod hM5 (fun e => by have := hlt _ e.symm; omega)
        obtain ⟨u51, u52, u53⟩ := u5.one
        have H5 := Lib.hid (And.intro hown' (And.intro hM5 (And.intro hat u5)))
        clear hown' hgrow hnil hat hM5 u5 o3 v3 s3 t3 u3 j3 l3 hS hlt hi hz0 hz1 hz2' e1
        gi_wp2
        obtain ⟨hown', hM5, hat, u5⟩ := H5.out
        obtain ⟨o3, v3, s3, t3, u3, j3, l3, hS⟩ := HO.out
        obtain ⟨hx, _, hok, _⟩ := HI3.out
        have hlt := fun b (hb : (Value.slice A3 k c3).ownBlock = some b) => o3.lt b hb
        have no : ∀ b, b < W2.heap.size + 2 → ¬ some b = (Value.slice A3 k c3).ownBlock := fun b hb e => by have := hlt _ e.symm; omega
        have mA : Mod (fun b => (b = w1.heap.size ∨ b = w.heap.size + 1 ∨ b = w.heap.size + 1 + 1) ∨ W2.heap.size + 2 ≤ b ∧ ¬S b) w3 w5 :=
          (((Mod.of_bl hb4).alloc _).alloc _).trans (hM5.wide fun b hb => .inr ⟨(hlt b hb.symm).1, (v3 b hb.symm).2⟩)
        have hz5 := hM5.size
        simp only [World.size_alloc] at hz5
        have ht : (bothF F G).take (k + 1) = (bothF F G).take k ++ [(at_, ⟨a1, a2⟩, ⟨b1, b2⟩)] := take_snoc hx
        have hr : rawF φ ((bothF F G).take (k + 1)) = rawF φ ((bothF F G).take k) ++ [⟨at_, (φ ⟨a1, a2⟩ ⟨b1, b2⟩).1⟩] := by rw [ht]; simp [rawF]
        have l4 : Below w.heap.size w w5 := l3.trans (mA.below l3.size (by rintro b ((h | h | h) | h) <;> omega))
        refine ⟨⟨lo_set l4 (by omega), by simp [World.setCell]; omega, (((((j3.bl hb4).alloc _).alloc _).mod hM5 (no _ (by omega))).farC (by omega)), (((((s3.bl hb4).alloc _).alloc _).mod hM5 (no _ (by omega))).farC (by omega)), (((((t3.bl hb4).alloc _).alloc _).mod hM5 (no _ (by omega))).farC (by omega)),
          ⟨_, u5.set 0 _, ?_, ?_⟩, ?_⟩, mA.setC (.inl (.inl rfl))⟩
        · rw [hr]
          show World.ownsRow _ _ _ _ _ _ _
          rw [flat_snoc, List.length_append, show W2.heap.size + 2 = w1.heap.size + 3 + 2 by omega]
          exact ownsRow_setCell_below (a := ⟨w1.heap.size, 0, none⟩) hown' (by show w1.heap.size < _; omega) _
        · intro b hb
          have hw : b < w5.heap.size := (World.ownsRow.lt hown' b hb).2
          refine ⟨by simp [World.setCell]; omega, fun hSb => ?_⟩
          rcases hat with h | h
          · rw [h] at hb
            exact (v3 b hb).2 hSb
          · rw [h] at hb
            injection hb with hb
            have := (hS b hSb).2
            try simp only [World.size_alloc] at hb
            omega
        · rw [ht, errF_snoc _ _ _ _ hok, if_pos HE.out]
          rfl
      · have e1 : ((φ ⟨a1, a2⟩ ⟨b1, b2⟩).2 == 0) = false := by rw [beq_eq_false_iff_ne]; exact he
        have HE := Lib.hid he
        clear he
        gi_wp2_with (refine ⟨trivial, ?_⟩; refine (CallsIn.inRound _ (callsIn_wide.2 hd3)).mono ?_; clear hd3; rintro e w4 ⟨rfl, hb4⟩; obtain ⟨s41, s42, s43⟩ := (HI3.out.2.2.2.2.2.2.2.1.bl hb4).one; obtain ⟨t41, t42, t43⟩ := (HI3.out.2.2.2.2.2.2.2.2.1.bl hb4).one)
        obtain ⟨hx, hS, hok, o3, v3, l3, j3, s3, t3, u3⟩ := HI3.out
        have herr : errF φ (bothF F G) = (φ ⟨a1, a2⟩ ⟨b1, b2⟩).2 := by
          rw [split_get _ _ _ hx, errF_snoc _ _ _ _ hok, if_neg HE.out]
        have l4 : Below w.heap.size w w4 := l3.trans (hb4.mono l3.size)
        have lx := lo_set (b := w.heap.size + 1 + 1) (o := 0) (u := .int .i64 (φ ⟨a1, a2⟩ ⟨b1, b2⟩).2) (lo_set (b := w.heap.size + 1) (o := 0) (u := .slice none 0 0) l4 (by omega)) (by omega)
        have mm := (Mod.setC (S := fun b => (b = w1.heap.size ∨ b = w.heap.size + 1 ∨ b = w.heap.size + 1 + 1) ∨ W2.heap.size + 2 ≤ b ∧ ¬S b) (b := w.heap.size + 1 + 1) (o := 0) (u := .int .i64 (φ ⟨a1, a2⟩ ⟨b1, b2⟩).2) (Mod.setC (b := w.heap.size + 1) (o := 0) (u := .slice none 0 0) (Mod.of_bl hb4) (.inl (.inr (.inl rfl)))) (.inl (.inr (.inr rfl))))
        refine ⟨⟨rfl, lx.alloc lx.size _, ((((s3.bl hb4).set 0 _).farC (c := w.heap.size + 1 + 1) (by omega)).alloc _), ?_, by rw [herr]; exact HE.out⟩, mm.alloc _⟩
        rw [herr]
        exact ((((t3.bl hb4).farC (c := w.heap.size + 1) (by omega)).set 0 _).alloc _)
    case hdone =>
      intro S W hS hi hD
      obtain ⟨v, v1, v2, v3⟩ := hi.raw
      rw [List.take_of_length_le (Nat.le_refl _)] at v2
      have hok := hi.ok
      rw [List.take_of_length_le (Nat.le_refl _)] at hok
      obtain ⟨A2, c2, rfl⟩ := v2.form
      obtain ⟨e1, e2, e3⟩ := v1.one
      obtain ⟨p1, p2, p3⟩ := hi.r1.one
      obtain ⟨q1, q2, q3⟩ := hi.r2.one
      have hr : madeF φ F G = ofF (rawF φ (bothF F G)) := by unfold madeF; rw [hm, hok]; rfl
      rw [hr]
      have hof := rle_of A2 (rawF φ (bothF F G)) c2 W (by simp only [rawF, List.length_map]; have := bothL_len (F.length + G.length) ⟨⟨0, 0⟩, ⟨0, 0⟩, F, G⟩; simp only [bothF]; omega) v2.rows
      have HI := Lib.hid (And.intro hi (And.intro v2 (And.intro hD hr)))
      clear hr hm hok hi v1 v2 v3 hD yr yf yg y0 y1 y2 hF hG hdo hg
      gi_wp2_with (refine ⟨trivial, ?_⟩; gi_at_call 61; refine (callsIn_wide.2 hof).mono ?_; clear hof; rintro e w3 ⟨⟨v3, rfl, hown⟩, hb3⟩; obtain ⟨A3, c3, rfl⟩ := hown.form; obtain ⟨p1', p2', p3'⟩ := (HI.out.1.r1.bl hb3).one; obtain ⟨q1', q2', q3'⟩ := (HI.out.1.r2.bl hb3).one)
      obtain ⟨hi, v2, hD, hr⟩ := HI.out
      rw [hr]
      have hz3 := hb3.size
      have hsz := hi.sz
      have hK : w3.heap[w1.heap.size + 3]? = some (.deferred (some [])) := (hb3.block _ (by omega)).trans (by rw [← hz2]; exact hD)
      have hK2 := (Mod.setC (S := fun b => b = w.heap.size + 1 ∨ b = w.heap.size + 1 + 1) (b := w.heap.size + 1 + 1) (o := 0) (u := .int .i64 (ofF (rawF φ (bothF F G))).2) (Mod.setC (b := w.heap.size + 1) (o := 0) (u := .slice A3 (ofF (rawF φ (bothF F G))).1.length c3) (Mod.refl (w := w3)) (.inl rfl)) (.inr rfl)).heap hK (by omega)
      have b1 := (((hi.r1.bl hb3).set 0 (.slice A3 (ofF (rawF φ (bothF F G))).1.length c3)).farC (c := w.heap.size + 1 + 1) (o := 0) (u := .int .i64 (ofF (rawF φ (bothF F G))).2) (by omega))
      have b2 := (((hi.r2.bl hb3).farC (c := w.heap.size + 1) (o := 0) (u := .slice A3 (ofF (rawF φ (bothF F G))).1.length c3) (by omega)).set 0 (.int .i64 (ofF (rawF φ (bothF F G))).2))
      have o1 : OwnSegs _ _ _ _ := ownsRow_setCell_below (a := ⟨w.heap.size + 1 + 1, 0, none⟩) (ownsRow_setCell_below (a := ⟨w.heap.size + 1, 0, none⟩) hown (by show w.heap.size + 1 < _; omega) (.slice A3 (ofF (rawF φ (bothF F G))).1.length c3)) (by show w.heap.size + 1 + 1 < _; omega) (.int .i64 (ofF (rawF φ (bothF F G))).2)
      have l1 := lo_set (b := w.heap.size + 1 + 1) (o := 0) (u := .int .i64 (ofF (rawF φ (bothF F G))).2) (lo_set (b := w.heap.size + 1) (o := 0) (u := .slice A3 (ofF (rawF φ (bothF F G))).1.length c3) (hi.lo.trans (hb3.mono (by omega))) (by omega)) (by omega)
      refine ⟨by simp, .inl ⟨w1.heap.size + 3, _, rfl, run_takeDeferred hK2, ?_⟩⟩
      have hP := Mod.putObj (S := fun b => b = w1.heap.size + 3) (W := (w3.setCell ⟨w.heap.size + 1, 0, none⟩ (.slice A3 (ofF (rawF φ (bothF F G))).1.length c3)).setCell ⟨w.heap.size + 1 + 1, 0, none⟩ (.int .i64 (ofF (rawF φ (bothF F G))).2)) (l := w1.heap.size + 3) (.deferred none) rfl
      obtain ⟨c1, c2, c3'⟩ := (b1.mod hP (by omega)).one
      obtain ⟨d1, d2, d3⟩ := (b2.mod hP (by omega)).one
      have o2 := o1.mod hP (fun b hb => by have := o1.lt b hb; omega)
      have l2 := l1.trans (hP.below (by have := l1.size; exact this) (by rintro b rfl; omega))
      refine ⟨.tuple #[.slice A3 (ofF (rawF φ (bothF F G))).1.length c3, .int .i64 (ofF (rawF φ (bothF F G))).2], by simp [results, Try.results32, go_sem, c1, d1], ⟨_, rfl, o2.mono (by omega)⟩, l2⟩
    case hstop =>
      rintro c S k W hS ⟨rfl, hlo, q1, q2, hbad⟩ hD
      have hr : madeF φ F G = ([], errF φ (bothF F G)) := by unfold madeF; rw [hm, if_pos rfl, if_neg hbad]
      have HI := Lib.hid (And.intro hlo (And.intro q1 (And.intro q2 (And.intro hD hr))))
      clear hdo hg hr hm hF hG hbad hD hlo q1 q2 yr yf yg y0 y1 y2
      gi_wp2
      obtain ⟨hlo, q1, q2, hD, hr⟩ := HI.out
      rw [hr]
      refine ⟨by simp, .inl ⟨W2.heap.size, _, rfl, run_takeDeferred hD, ?_⟩⟩
      have hP := Mod.putObj (S := fun b => b = W2.heap.size) (W := W) (l := W2.heap.size) (.deferred none) rfl
      obtain ⟨c1, c2, c3'⟩ := (q1.mod hP (by omega)).one
      obtain ⟨d1, d2, d3⟩ := (q2.mod hP (by omega)).one
      have l2 := hlo.trans (hP.below (by have := hlo.size; exact this) (by rintro b rfl; omega))
      refine ⟨.tuple #[.slice none 0 0, .int .i64 (errF φ (bothF F G))], by simp [results, Try.results32, go_sem, c1, d1], ⟨_, rfl, ⟨rfl, .inl ⟨rfl, rfl⟩⟩⟩, l2⟩

end Go.Proofs.Ytdbogephaddbjaa
