/- Step functions in plain Lean: values, canonical functions, what a joint makes. No program. -/
import Derived.Test.YtdbogephaddbjaaCalcD
set_option linter.unusedVariables false
set_option linter.unusedSimpArgs false
namespace Go.Proofs.Ytdbogephaddbjaa

/-- The value at a time from a start value on. -/
def atG (a : Vec) (L : List Seg) (t : Int) : Vec := L.foldl (fun v x => if x.at_ ≤ t then x.v else v) a
theorem atF_eq (L : List Seg) (t : Int) : atF L t = atG ⟨0, 0⟩ L t := rfl
theorem atG_cons (a : Vec) (x : Seg) (L : List Seg) (t : Int) : atG a (x :: L) t = atG (if x.at_ ≤ t then x.v else a) L t := rfl
theorem atG_snoc (a : Vec) (x : Seg) (L : List Seg) (t : Int) : atG a (L ++ [x]) t = if x.at_ ≤ t then x.v else atG a L t := by simp [atG]
theorem atG_late {t : Int} : ∀ (L : List Seg) (a : Vec), (∀ x ∈ L, t < x.at_) → atG a L t = a
  | [], _, _ => rfl
  | x :: L, a, h => by
    have h1 := h x (by simp)
    rw [atG_cons, if_neg (by omega)]
    exact atG_late L a fun y hy => h y (by simp [hy])
/-- Times rise. -/
def RiseL (L : List Seg) : Prop := L.Pairwise fun x y => x.at_ < y.at_
theorem RiseL.nil : RiseL [] := List.Pairwise.nil
theorem riseL_cons {x : Seg} {L : List Seg} : RiseL (x :: L) ↔ (∀ y ∈ L, x.at_ < y.at_) ∧ RiseL L := List.pairwise_cons

theorem mayGo_cons {p x : Seg} {L : List Seg} : mayGo p (x :: L) = true ↔ (inB x = true ∧ x.v ≠ p.v ∧ p.at_ < x.at_) ∧ mayGo x L = true := by
  show ((!oddB p.v p.at_ x) && mayGo x L) = true ↔ _
  unfold oddB
  rw [Bool.and_eq_true]
  simp
  intro _
  exact and_assoc
theorem mayGo_late : ∀ {L : List Seg} {p : Seg}, mayGo p L = true → ∀ y ∈ L, p.at_ < y.at_
  | [], _, _, y, hy => by simp at hy
  | x :: L, p, h, y, hy => by
    rw [mayGo_cons] at h
    rcases List.mem_cons.1 hy with rfl | hy
    · exact h.1.2.2
    · have := mayGo_late h.2 y hy
      omega
theorem mayGo_rise : ∀ {L : List Seg} {p : Seg}, mayGo p L = true → RiseL L
  | [], _, _ => RiseL.nil
  | x :: L, p, h => by
    rw [mayGo_cons] at h
    exact riseL_cons.2 ⟨mayGo_late h.2, mayGo_rise h.2⟩
theorem mayGo_in : ∀ {L : List Seg} {p : Seg}, mayGo p L = true → ∀ y ∈ L, inB y = true
  | [], _, _, y, hy => by simp at hy
  | x :: L, p, h, y, hy => by
    rw [mayGo_cons] at h
    rcases List.mem_cons.1 hy with rfl | hy
    · exact h.1.1
    · exact mayGo_in h.2 y hy
theorem mayF_rise {L : List Seg} (h : mayF L = true) : RiseL L := mayGo_rise h
theorem mayF_in {L : List Seg} (h : mayF L = true) : ∀ y ∈ L, inB y = true := mayGo_in h
theorem mayGo_snoc : ∀ (L : List Seg) (p x : Seg), mayGo p (L ++ [x]) = true ↔ mayGo p L = true ∧ inB x = true ∧ x.v ≠ (L.getLastD p).v ∧ (L.getLastD p).at_ < x.at_
  | [], p, x => by
    show mayGo p [x] = true ↔ _
    rw [mayGo_cons]
    simp [mayGo]
  | y :: L, p, x => by
    rw [List.cons_append, mayGo_cons, mayGo_snoc L y x, mayGo_cons]
    have : (y :: L).getLastD p = L.getLastD y := by cases L <;> rfl
    rw [this]
    constructor
    · rintro ⟨h1, h2, h3⟩; exact ⟨⟨h1, h2⟩, h3⟩
    · rintro ⟨⟨h1, h2⟩, h3⟩; exact ⟨h1, h2, h3⟩
theorem inB_iff {x : Seg} : inB x = true ↔ (-1125899906842624 ≤ x.at_ ∧ x.at_ ≤ 1125899906842624) ∧ (-1125899906842624 ≤ x.v.m ∧ x.v.m ≤ 1125899906842624) ∧ (-1125899906842624 ≤ x.v.c ∧ x.v.c ≤ 1125899906842624) := by
  unfold inB mayV fitB
  simp
/-- Two canonical functions of the same values are the same. -/
theorem may_unique : ∀ {F G : List Seg} {p : Seg}, mayGo p F = true → mayGo p G = true → (∀ t, p.at_ < t → atG p.v F t = atG p.v G t) → F = G
  | [], [], _, _, _, _ => rfl
  | [], y :: G, p, _, hG, h => by
    rw [mayGo_cons] at hG
    have h1 := h y.at_ hG.1.2.2
    rw [atG_cons, if_pos (Int.le_refl _), atG_late G _ (mayGo_late hG.2)] at h1
    exact absurd h1.symm hG.1.2.1
  | x :: F, [], p, hF, _, h => by
    rw [mayGo_cons] at hF
    have h1 := h x.at_ hF.1.2.2
    rw [atG_cons, if_pos (Int.le_refl _), atG_late F _ (mayGo_late hF.2)] at h1
    exact absurd h1 hF.1.2.1
  | x :: F, y :: G, p, hF, hG, h => by
    rw [mayGo_cons] at hF hG
    have lx := mayGo_late hF.2
    have ly := mayGo_late hG.2
    rcases Int.lt_trichotomy x.at_ y.at_ with hxy | hxy | hxy
    · have h1 := h x.at_ hF.1.2.2
      rw [atG_cons, if_pos (Int.le_refl _), atG_late F _ lx, atG_cons, if_neg (by omega), atG_late G _ (fun z hz => by have := ly z hz; omega)] at h1
      exact absurd h1 hF.1.2.1
    · have h1 := h x.at_ hF.1.2.2
      rw [atG_cons, if_pos (Int.le_refl _), atG_late F _ lx, atG_cons, if_pos (by omega), atG_late G _ (fun z hz => by have := ly z hz; omega)] at h1
      obtain ⟨xa, xv⟩ := x
      obtain ⟨ya, yv⟩ := y
      dsimp only at hxy h1
      subst hxy h1
      rw [may_unique hF.2 hG.2 ?_]
      intro t ht
      have h2 := h t (by have := hF.1.2.2; dsimp only at this ht; omega)
      dsimp only at ht
      rw [atG_cons, atG_cons, if_pos (by show xa ≤ t; omega)] at h2
      exact h2
    · have h1 := h y.at_ hG.1.2.2
      rw [atG_cons, if_neg (by omega), atG_late F _ (fun z hz => by have := lx z hz; omega), atG_cons, if_pos (Int.le_refl _), atG_late G _ ly] at h1
      exact absurd h1.symm hG.1.2.1
theorem atG_before {F : List Seg} {p : Seg} (h : mayGo p F = true) {t : Int} (ht : t ≤ p.at_) : atG p.v F t = p.v :=
  atG_late F _ fun x hx => by have := mayGo_late h x hx; omega
theorem mayF_unique {F G : List Seg} (hF : mayF F = true) (hG : mayF G = true) (h : ∀ t, atF F t = atF G t) : F = G :=
  may_unique (p := seg0) hF hG fun t _ => h t

/-! ### folded -/
theorem ins_head {x : Seg} {l : List Seg} (h : ∀ y ∈ l, ¬ y.at_ < x.at_) : ins ltA x l = x :: l := by
  cases l with
  | nil => rfl
  | cons y ys =>
    show (if ltA y x then _ else _) = _
    rw [if_neg (by unfold ltA; exact h y (by simp))]
theorem isort_rise : ∀ {l : List Seg}, RiseL l → isort ltA l = l
  | [], _ => rfl
  | x :: l, h => by
    rw [riseL_cons] at h
    show ins ltA x (isort ltA l) = _
    rw [isort_rise h.2]
    exact ins_head fun y hy => by have := h.1 y hy; omega
structure FoldInv (l : List Seg) (k : Nat) (s : Vec × List Seg) : Prop where
  last : s.1 = (s.2.getLastD seg0).v
  may : mayGo seg0 s.2 = true
  val : ∀ t, atG ⟨0, 0⟩ s.2 t = atG ⟨0, 0⟩ (l.take k) t
  mem : ∀ x ∈ s.2, x ∈ l.take k
  fin : ∀ t, (∀ x ∈ l.take k, x.at_ ≤ t) → atG ⟨0, 0⟩ (l.take k) t = s.1
theorem getLastD_mem : ∀ (l : List Seg) (p : Seg), l.getLastD p = p ∨ l.getLastD p ∈ l
  | [], _ => .inl rfl
  | x :: l, p => by
    have : (x :: l).getLastD p = l.getLastD x := by cases l <;> rfl
    rw [this]
    rcases getLastD_mem l x with h | h
    · exact .inr (by rw [h]; simp)
    · exact .inr (List.mem_cons_of_mem _ h)
theorem fold_inv {l : List Seg} (hr : RiseL l) (hin : ∀ x ∈ l, inB x = true) : ∀ k, k ≤ l.length → FoldInv l k (foldSt l k)
  | 0, _ => ⟨rfl, rfl, fun _ => by simp [foldSt], fun x hx => by simp [foldSt] at hx, fun _ _ => by simp [foldSt, atG]⟩
  | k + 1, hk => by
    have ih := fold_inv hr hin k (by omega)
    have hx : l[k]? = some l[k] := List.getElem?_eq_getElem (by omega)
    have hg : l.getD k seg0 = l[k] := by rw [List.getD_eq_getElem?_getD, hx]; rfl
    have ht := take_snoc hx
    have hlt : ∀ y ∈ l.take k, y.at_ < l[k].at_ := by
      intro y hy
      obtain ⟨i, hi, rfl⟩ := List.mem_iff_getElem.1 hy
      rw [List.length_take] at hi
      rw [List.getElem_take]
      exact (List.pairwise_iff_getElem.1 hr) i k (by omega) (by omega) (by omega)
    have hxin := hin l[k] (List.getElem_mem _)
    have hstep : foldSt l (k + 1) = (putLast (foldSt l k).1 l[k], putOut (foldSt l k).1 (foldSt l k).2 l[k]) := by
      rw [foldSt_succ]
      unfold foldStep
      rw [if_pos, hg]
      by_cases h1 : k + 1 = l.length
      · exact .inl h1
      · right
        have h2 : l[k + 1]? = some l[k + 1] := List.getElem?_eq_getElem (by omega)
        rw [hg, List.getD_eq_getElem?_getD, h2]
        have := (List.pairwise_iff_getElem.1 hr) k (k + 1) (by omega) (by omega) (by omega)
        show l[k + 1].at_ ≠ _
        omega
    rw [hstep]
    generalize foldSt l k = s at *
    generalize l[k] = x at *
    obtain ⟨lst, out⟩ := s
    obtain ⟨i1, i2, i3, i4, i5⟩ := ih
    dsimp only at i1 i2 i3 i4 i5
    unfold putLast putOut
    by_cases hv : x.v = lst
    · dsimp only
      rw [if_pos hv, if_pos hv]
      refine ⟨i1, i2, fun t => ?_, fun y hy => ?_, fun t h => ?_⟩
      · rw [ht, atG_snoc, i3]
        by_cases h : x.at_ ≤ t
        · rw [if_pos h, i5 t fun y hy => by have := hlt y hy; omega, hv]
        · rw [if_neg h]
      · rw [ht]; exact List.mem_append_left _ (i4 y hy)
      · rw [ht, atG_snoc, if_pos (h x (by rw [ht]; simp)), hv]
    · dsimp only
      rw [if_neg hv, if_neg hv]
      refine ⟨by simp [List.getLastD_eq_getLast?], ?_, fun t => ?_, fun y hy => ?_, fun t h => ?_⟩
      · rw [mayGo_snoc]
        refine ⟨i2, hxin, by rw [← i1]; exact hv, ?_⟩
        rcases getLastD_mem out seg0 with h | h
        · rw [h]
          have := (inB_iff.1 hxin).1.1
          show (-1125899906842625 : Int) < _
          omega
        · exact hlt _ (i4 _ h)
      · rw [ht, atG_snoc, atG_snoc, i3]
      · rw [ht]
        rcases List.mem_append.1 hy with h | h
        · exact List.mem_append_left _ (i4 y h)
        · exact List.mem_append_right _ h
      · rw [ht, atG_snoc, if_pos (h x (by rw [ht]; simp))]
theorem folded_rise {l : List Seg} (hr : RiseL l) (hin : ∀ x ∈ l, inB x = true) : mayF (foldedF l) = true ∧ (∀ t, atF (foldedF l) t = atF l t) ∧ ∀ x ∈ foldedF l, x ∈ l := by
  have h := fold_inv hr hin l.length (Nat.le_refl _)
  have e : foldedF l = (foldSt l l.length).2 := by unfold foldedF; rw [isort_rise hr]
  rw [e]
  exact ⟨h.may, fun t => (h.val t).trans (by rw [List.take_length]; rfl), fun x hx => by have := h.mem x hx; rwa [List.take_length] at this⟩

/-! ### both -/
theorem bstep_spec (s : Bst) (h : ¬ (s.f = [] ∧ s.g = [])) (hf : RiseL s.f) (hg : RiseL s.g) :
    ((∀ x ∈ (bstep s).2.f, (bstep s).1 < x.at_) ∧ (∀ x ∈ (bstep s).2.g, (bstep s).1 < x.at_)) ∧ (RiseL (bstep s).2.f ∧ RiseL (bstep s).2.g) ∧
    ((∀ x ∈ s.f, (bstep s).1 ≤ x.at_) ∧ (∀ x ∈ s.g, (bstep s).1 ≤ x.at_)) ∧
    (∀ t, (bstep s).1 ≤ t → atG s.a s.f t = atG (bstep s).2.a (bstep s).2.f t ∧ atG s.b s.g t = atG (bstep s).2.b (bstep s).2.g t) ∧
    ((∀ x ∈ (bstep s).2.f, x ∈ s.f) ∧ (∀ x ∈ (bstep s).2.g, x ∈ s.g)) ∧ (∃ x, (x ∈ s.f ∨ x ∈ s.g) ∧ x.at_ = (bstep s).1) := by
  obtain ⟨a, b, f, g⟩ := s
  cases f with
  | nil => cases g with
    | nil => simp at h
    | cons y ys =>
      rw [riseL_cons] at hg
      refine ⟨⟨fun x hx => by simp [bstep] at hx, hg.1⟩, ⟨hf, hg.2⟩, ⟨fun x hx => by simp at hx, fun x hx => ?_⟩, fun t ht => ⟨rfl, ?_⟩, ⟨fun x hx => hx, fun x hx => List.mem_cons_of_mem _ hx⟩, y, .inr (by simp), rfl⟩
      · rcases List.mem_cons.1 hx with rfl | hx
        · exact Int.le_refl _
        · exact Int.le_of_lt (hg.1 x hx)
      · rw [atG_cons, if_pos (by exact ht)]; rfl
  | cons x xs => cases g with
    | nil =>
      rw [riseL_cons] at hf
      refine ⟨⟨hf.1, fun x hx => by simp [bstep] at hx⟩, ⟨hf.2, hg⟩, ⟨fun z hx => ?_, fun x hx => by simp at hx⟩, fun t ht => ⟨?_, rfl⟩, ⟨fun x hx => List.mem_cons_of_mem _ hx, fun x hx => hx⟩, x, .inl (by simp), rfl⟩
      · rcases List.mem_cons.1 hx with rfl | hx
        · exact Int.le_refl _
        · exact Int.le_of_lt (hf.1 z hx)
      · rw [atG_cons, if_pos (by exact ht)]; rfl
    | cons y ys =>
      have hf' := hf
      have hg' := hg
      rw [riseL_cons] at hf hg
      rcases Int.lt_trichotomy x.at_ y.at_ with c | c | c
      · have e : bstep ⟨a, b, x :: xs, y :: ys⟩ = (x.at_, ⟨x.v, b, xs, y :: ys⟩) := by simp only [bstep]; rw [if_neg (by omega), if_pos c]
        rw [e]
        refine ⟨⟨hf.1, fun z hz => ?_⟩, ⟨hf.2, hg'⟩, ⟨fun z hz => ?_, fun z hz => ?_⟩, fun t ht => ⟨by rw [atG_cons, if_pos ht], rfl⟩, ⟨fun z hz => List.mem_cons_of_mem _ hz, fun z hz => hz⟩, x, .inl (by simp), rfl⟩
        · rcases List.mem_cons.1 hz with rfl | hz
          · exact c
          · have := hg.1 z hz; show x.at_ < _; omega
        · rcases List.mem_cons.1 hz with rfl | hz
          · exact Int.le_refl _
          · exact Int.le_of_lt (hf.1 z hz)
        · rcases List.mem_cons.1 hz with rfl | hz
          · exact Int.le_of_lt c
          · have := hg.1 z hz; show x.at_ ≤ _; omega
      · have e : bstep ⟨a, b, x :: xs, y :: ys⟩ = (x.at_, ⟨x.v, y.v, xs, ys⟩) := by simp only [bstep]; rw [if_pos c]
        rw [e]
        refine ⟨⟨hf.1, fun z hz => ?_⟩, ⟨hf.2, hg.2⟩, ⟨fun z hz => ?_, fun z hz => ?_⟩, fun t ht => ⟨by rw [atG_cons, if_pos ht], by rw [atG_cons, if_pos (by rw [← c]; exact ht)]⟩, ⟨fun z hz => List.mem_cons_of_mem _ hz, fun z hz => List.mem_cons_of_mem _ hz⟩, x, .inl (by simp), rfl⟩
        · have := hg.1 z hz; show x.at_ < _; omega
        · rcases List.mem_cons.1 hz with rfl | hz
          · exact Int.le_refl _
          · exact Int.le_of_lt (hf.1 z hz)
        · rcases List.mem_cons.1 hz with rfl | hz
          · exact Int.le_of_eq c
          · have := hg.1 z hz; show x.at_ ≤ _; omega
      · have e : bstep ⟨a, b, x :: xs, y :: ys⟩ = (y.at_, ⟨a, y.v, x :: xs, ys⟩) := by simp only [bstep]; rw [if_neg (by omega), if_neg (by omega)]
        rw [e]
        refine ⟨⟨fun z hz => ?_, hg.1⟩, ⟨hf', hg.2⟩, ⟨fun z hz => ?_, fun z hz => ?_⟩, fun t ht => ⟨rfl, by rw [atG_cons, if_pos ht]⟩, ⟨fun z hz => hz, fun z hz => List.mem_cons_of_mem _ hz⟩, y, .inr (by simp), rfl⟩
        · rcases List.mem_cons.1 hz with rfl | hz
          · exact c
          · have := hf.1 z hz; show y.at_ < _; omega
        · rcases List.mem_cons.1 hz with rfl | hz
          · exact Int.le_of_lt c
          · have := hf.1 z hz; show y.at_ ≤ _; omega
        · rcases List.mem_cons.1 hz with rfl | hz
          · exact Int.le_refl _
          · exact Int.le_of_lt (hg.1 z hz)

theorem bothL_mem : ∀ (n : Nat) (s : Bst), RiseL s.f → RiseL s.g → ∀ y ∈ bothL n s, (∃ x, (x ∈ s.f ∨ x ∈ s.g) ∧ x.at_ = y.1) ∧ y.2.1 = atG s.a s.f y.1 ∧ y.2.2 = atG s.b s.g y.1
  | 0, _, _, _, y, hy => by simp [bothL] at hy
  | n + 1, s, hf, hg, y, hy => by
    unfold bothL at hy
    by_cases h : s.f = [] ∧ s.g = []
    · rw [if_pos h] at hy; simp at hy
    · rw [if_neg h] at hy
      obtain ⟨⟨a1, a2⟩, ⟨b1, b2⟩, _, h4, ⟨h5, h6⟩, h7⟩ := bstep_spec s h hf hg
      rcases List.mem_cons.1 hy with rfl | hy
      · refine ⟨h7, ?_⟩
        have h8 := h4 _ (Int.le_refl _)
        dsimp only
        rw [h8.1, h8.2, atG_late _ _ a1, atG_late _ _ a2]
        exact ⟨rfl, rfl⟩
      · obtain ⟨⟨x, hx, hxy⟩, h9, h10⟩ := bothL_mem n _ b1 b2 y hy
        have hlt : (bstep s).1 ≤ y.1 := by
          rw [← hxy]
          rcases hx with hx | hx
          · exact Int.le_of_lt (a1 x hx)
          · exact Int.le_of_lt (a2 x hx)
        have h8 := h4 _ hlt
        exact ⟨⟨x, hx.imp (h5 x) (h6 x), hxy⟩, by rw [h9, h8.1], by rw [h10, h8.2]⟩
theorem bothL_rise : ∀ (n : Nat) (s : Bst), RiseL s.f → RiseL s.g → (bothL n s).Pairwise fun x y => x.1 < y.1
  | 0, _, _, _ => List.Pairwise.nil
  | n + 1, s, hf, hg => by
    unfold bothL
    by_cases h : s.f = [] ∧ s.g = []
    · rw [if_pos h]; exact List.Pairwise.nil
    · rw [if_neg h]
      obtain ⟨⟨a1, a2⟩, ⟨b1, b2⟩, _⟩ := bstep_spec s h hf hg
      refine List.pairwise_cons.2 ⟨fun y hy => ?_, bothL_rise n _ b1 b2⟩
      obtain ⟨⟨x, hx, hxy⟩, _⟩ := bothL_mem n _ b1 b2 y hy
      dsimp only
      rw [← hxy]
      rcases hx with hx | hx
      · exact a1 x hx
      · exact a2 x hx
theorem raw_rise (φ : Vec → Vec → Vec × Int) {l : List (Int × Vec × Vec)} (h : l.Pairwise fun x y => x.1 < y.1) : RiseL (rawF φ l) := by
  unfold RiseL rawF
  rw [List.pairwise_map]
  exact h
theorem bothL_at (φ : Vec → Vec → Vec × Int) : ∀ (n : Nat) (s : Bst), s.f.length + s.g.length ≤ n → RiseL s.f → RiseL s.g → ∀ t, atG (φ s.a s.b).1 (rawF φ (bothL n s)) t = (φ (atG s.a s.f t) (atG s.b s.g t)).1
  | 0, s, hn, _, _, t => by
    have h1 : s.f = [] := List.eq_nil_of_length_eq_zero (by omega)
    have h2 : s.g = [] := List.eq_nil_of_length_eq_zero (by omega)
    rw [h1, h2]
    rfl
  | n + 1, s, hn, hf, hg, t => by
    unfold bothL
    by_cases h : s.f = [] ∧ s.g = []
    · rw [if_pos h, h.1, h.2]; rfl
    · rw [if_neg h]
      obtain ⟨⟨a1, a2⟩, ⟨b1, b2⟩, ⟨c1, c2⟩, h4, _, _⟩ := bstep_spec s h hf hg
      have hsz := bstep_size s h
      unfold Bst.size at hsz
      show atG (φ s.a s.b).1 (⟨(bstep s).1, (φ (bstep s).2.a (bstep s).2.b).1⟩ :: rawF φ (bothL n (bstep s).2)) t = _
      rw [atG_cons]
      by_cases ht : (bstep s).1 ≤ t
      · rw [if_pos (by exact ht), bothL_at φ n _ (by omega) b1 b2 t, (h4 t ht).1, (h4 t ht).2]
      · rw [if_neg (by exact ht), atG_late, atG_late s.f, atG_late s.g]
        · intro x hx; have := c2 x hx; omega
        · intro x hx; have := c1 x hx; omega
        · intro x hx
          unfold rawF at hx
          obtain ⟨y, hy, rfl⟩ := List.mem_map.1 hx
          obtain ⟨⟨z, hz, hzy⟩, _⟩ := bothL_mem n _ b1 b2 y hy
          dsimp only
          rw [← hzy]
          rcases hz with hz | hz
          · have := a1 z hz; omega
          · have := a2 z hz; omega
theorem errF_zero (φ : Vec → Vec → Vec × Int) : ∀ (l : List (Int × Vec × Vec)), errF φ l = 0 ↔ ∀ y ∈ l, (φ y.2.1 y.2.2).2 = 0
  | [] => by simp [errF]
  | x :: xs => by
    unfold errF
    by_cases h : (φ x.2.1 x.2.2).2 = 0
    · rw [if_pos h, errF_zero φ xs]; simp [h]
    · rw [if_neg h]; simp [h]
theorem ofF_ok {raw : List Seg} (h : (ofF raw).2 = 0) : (∀ x ∈ raw, inB x = true) ∧ (ofF raw).1 = foldedF raw := by
  unfold ofF at h ⊢
  cases hb : raw.all inB with
  | false => rw [hb] at h; simp at h
  | true => exact ⟨List.all_eq_true.1 hb, rfl⟩
/-- What a joint makes, if it makes something. -/
theorem madeF_spec {φ : Vec → Vec → Vec × Int} (h0 : (φ ⟨0, 0⟩ ⟨0, 0⟩).1 = ⟨0, 0⟩) {F G : List Seg} (h : (madeF φ F G).2 = 0) :
    mayF F = true ∧ mayF G = true ∧ mayF (madeF φ F G).1 = true ∧ (∀ t, atF (madeF φ F G).1 t = (φ (atF F t) (atF G t)).1) := by
  unfold madeF at h ⊢
  by_cases hm : (mayF F && mayF G) = true
  · rw [if_pos hm] at h ⊢
    rw [Bool.and_eq_true] at hm
    by_cases he : errF φ (bothF F G) = 0
    · rw [if_pos he] at h ⊢
      obtain ⟨h1, h2⟩ := ofF_ok h
      rw [h2]
      obtain ⟨g1, g2, g3⟩ := folded_rise (raw_rise φ (bothL_rise _ _ (mayF_rise hm.1) (mayF_rise hm.2))) h1
      refine ⟨hm.1, hm.2, g1, fun t => ?_⟩
      refine (g2 t).trans ?_
      have := bothL_at φ (F.length + G.length) ⟨⟨0, 0⟩, ⟨0, 0⟩, F, G⟩ (Nat.le_refl _) (mayF_rise hm.1) (mayF_rise hm.2) t
      rw [h0] at this
      exact this
    · rw [if_neg he] at h; exact absurd h he
  · rw [if_neg hm] at h; simp at h
theorem maxF_spec {F G : List Seg} (h : (maxF F G).2 = 0) : mayF F = true ∧ mayF G = true ∧ mayF (maxF F G).1 = true ∧ (∀ t, atF (maxF F G).1 t = maxV (atF F t) (atF G t)) :=
  madeF_spec (φ := fun a b => (maxV a b, 0)) (by decide) h

end Go.Proofs.Ytdbogephaddbjaa
