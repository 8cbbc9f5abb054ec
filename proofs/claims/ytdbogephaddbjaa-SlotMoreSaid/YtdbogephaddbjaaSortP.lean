/- Sorting that is stable, in plain Lean: elements with tags, insertion, merging; no program. -/
set_option linter.unusedVariables false
namespace Go.Proofs.Ytdbogephaddbjaa

/-- A strict weak order. -/
structure SWO {β : Type} (lt : β → β → Prop) : Prop where
  asymm : ∀ x y, lt x y → ¬ lt y x
  ntrans : ∀ x y z, ¬ lt x y → ¬ lt y z → ¬ lt x z

/-- The order of elements with tags: equals go by their tags. -/
def tl {β : Type} (lt : β → β → Prop) (p q : β × Nat) : Prop := lt p.1 q.1 ∨ (¬ lt q.1 p.1 ∧ p.2 < q.2)

section
variable {β : Type} {lt : β → β → Prop}
theorem tl_trans (h : SWO lt) {p q r : β × Nat} (h1 : tl lt p q) (h2 : tl lt q r) : tl lt p r := by
  rcases h1 with h1 | ⟨h1, t1⟩
  · rcases h2 with h2 | ⟨h2, t2⟩
    · refine .inl (Classical.byContradiction fun hn => ?_)
      exact h.ntrans _ _ _ hn (h.asymm _ _ h2) h1
    · refine .inl (Classical.byContradiction fun hn => ?_)
      exact h.ntrans _ _ _ hn h2 h1
  · rcases h2 with h2 | ⟨h2, t2⟩
    · refine .inl (Classical.byContradiction fun hn => ?_)
      exact h.ntrans _ _ _ h1 hn h2
    · exact .inr ⟨h.ntrans _ _ _ h2 h1, by omega⟩
theorem tl_irrefl (h : SWO lt) {p : β × Nat} (h1 : tl lt p p) : False := by
  rcases h1 with h1 | ⟨_, h1⟩
  · exact h.asymm _ _ h1 h1
  · omega
theorem tl_asymm (h : SWO lt) {p q : β × Nat} (h1 : tl lt p q) (h2 : tl lt q p) : False := tl_irrefl h (tl_trans h h1 h2)
theorem tl_of_lt {p q : β × Nat} (h1 : lt p.1 q.1) : tl lt p q := .inl h1
theorem tl_of_not {p q : β × Nat} (h1 : ¬ lt q.1 p.1) (ht : p.2 < q.2) : tl lt p q := .inr ⟨h1, ht⟩
end

def swp {α : Type} (F : Nat → α) (x y : Nat) : Nat → α := fun k => if k = x then F y else if k = y then F x else F k

/-- g holds in [a, b) what f holds there, and is f elsewhere. -/
structure Same {α : Type} (a b : Nat) (f g : Nat → α) : Prop where
  out : ∀ i, i < a ∨ b ≤ i → g i = f i
  fro : ∀ i, a ≤ i → i < b → ∃ j, a ≤ j ∧ j < b ∧ g i = f j
  to : ∀ j, a ≤ j → j < b → ∃ i, a ≤ i ∧ i < b ∧ g i = f j
section
variable {α : Type} {a b a' b' : Nat} {f g h : Nat → α}
theorem Same.refl : Same a b f f := ⟨fun _ _ => rfl, fun i h1 h2 => ⟨i, h1, h2, rfl⟩, fun i h1 h2 => ⟨i, h1, h2, rfl⟩⟩
theorem Same.trans (h1 : Same a b f g) (h2 : Same a b g h) : Same a b f h := by
  refine ⟨fun i hi => (h2.out i hi).trans (h1.out i hi), fun i ha hb => ?_, fun j ha hb => ?_⟩
  · obtain ⟨j, j1, j2, e⟩ := h2.fro i ha hb
    obtain ⟨k, k1, k2, e'⟩ := h1.fro j j1 j2
    exact ⟨k, k1, k2, e.trans e'⟩
  · obtain ⟨i, i1, i2, e⟩ := h1.to j ha hb
    obtain ⟨k, k1, k2, e'⟩ := h2.to i i1 i2
    exact ⟨k, k1, k2, e'.trans e⟩
theorem Same.wide (h1 : Same a b f g) (ha : a' ≤ a) (hb : b ≤ b') : Same a' b' f g := by
  refine ⟨fun i hi => h1.out i (by omega), fun i i1 i2 => ?_, fun i i1 i2 => ?_⟩
  · by_cases c : a ≤ i ∧ i < b
    · obtain ⟨j, j1, j2, e⟩ := h1.fro i c.1 c.2
      exact ⟨j, by omega, by omega, e⟩
    · exact ⟨i, i1, i2, h1.out i (by omega)⟩
  · by_cases c : a ≤ i ∧ i < b
    · obtain ⟨j, j1, j2, e⟩ := h1.to i c.1 c.2
      exact ⟨j, by omega, by omega, e⟩
    · exact ⟨i, i1, i2, h1.out i (by omega)⟩
theorem Same.congr (h1 : Same a b f g) (e : ∀ i, h i = g i) : Same a b f h := by
  obtain rfl : h = g := funext e
  exact h1
theorem Same.swp {x y : Nat} (hx : a ≤ x) (hx' : x < b) (hy : a ≤ y) (hy' : y < b) : Same a b f (swp f x y) := by
  refine ⟨fun i hi => ?_, fun i i1 i2 => ?_, fun i i1 i2 => ?_⟩
  · unfold Ytdbogephaddbjaa.swp
    rw [if_neg (by omega), if_neg (by omega)]
  · unfold Ytdbogephaddbjaa.swp
    by_cases c : i = x
    · exact ⟨y, hy, hy', by rw [if_pos c]⟩
    · by_cases c' : i = y
      · exact ⟨x, hx, hx', by rw [if_neg c, if_pos c']⟩
      · exact ⟨i, i1, i2, by rw [if_neg c, if_neg c']⟩
  · unfold Ytdbogephaddbjaa.swp
    by_cases c : i = x
    · by_cases e : y = x
      · exact ⟨x, hx, hx', by rw [if_pos rfl, c, e]⟩
      · exact ⟨y, hy, hy', by rw [if_neg e, if_pos rfl, c]⟩
    · by_cases c' : i = y
      · exact ⟨x, hx, hx', by rw [if_pos rfl, c']⟩
      · exact ⟨i, i1, i2, by rw [if_neg c, if_neg c']⟩
end

def Srt {α : Type} (R : α → α → Prop) (a b : Nat) (f : Nat → α) : Prop := ∀ i j, a ≤ i → i < j → j < b → R (f i) (f j)

/-! ### Insertion -/
structure Ins {β : Type} (lt : β → β → Prop) (F0 : Nat → β × Nat) (a i j : Nat) (f : Nat → β × Nat) : Prop where
  same : Same a (i + 1) F0 f
  lo : ∀ p q, a ≤ p → p < q → q < j → tl lt (f p) (f q)
  hi : ∀ p q, j < p → p < q → q ≤ i → tl lt (f p) (f q)
  x : ∀ p q, a ≤ p → p < j → j < q → q ≤ i → tl lt (f p) (f q)
  xh : ∀ q, j < q → q ≤ i → tl lt (f j) (f q)
  tg : ∀ p, a ≤ p → p ≤ i → p ≠ j → (f p).2 < (f j).2
section
variable {β : Type} {lt : β → β → Prop} {F0 f : Nat → β × Nat} {a i j : Nat}
theorem Ins.start (h : Same a i F0 f) (hs : Srt (tl lt) a i f) (ht : ∀ p q, a ≤ p → p < q → q ≤ i → (F0 p).2 < (F0 q).2) (hai : a ≤ i) : Ins lt F0 a i i f := by
  refine ⟨h.wide (Nat.le_refl _) (by omega), hs, fun p q h1 h2 h3 => by omega, fun p q h1 h2 h3 h4 => by omega, fun q h1 h2 => by omega, fun p h1 h2 h3 => ?_⟩
  obtain ⟨k, k1, k2, e⟩ := h.fro p h1 (by omega)
  rw [e, h.out i (by omega)]
  exact ht k i k1 k2 (Nat.le_refl _)
theorem Ins.step (h : Ins lt F0 a i (j + 1) f) (haj : a ≤ j) (hji : j + 1 ≤ i) (hlt : lt (f (j + 1)).1 (f j).1) : Ins lt F0 a i j (swp f (j + 1) j) := by
  have e1 : ∀ p, p ≠ j → p ≠ j + 1 → swp f (j + 1) j p = f p := fun p h1 h2 => by unfold swp; rw [if_neg h2, if_neg h1]
  have e2 : swp f (j + 1) j j = f (j + 1) := by unfold swp; rw [if_neg (by omega), if_pos rfl]
  have e3 : swp f (j + 1) j (j + 1) = f j := by unfold swp; rw [if_pos rfl]
  refine ⟨h.same.trans (Same.swp (by omega) (by omega) haj (by omega)), fun p q h1 h2 h3 => ?_, fun p q h1 h2 h3 => ?_, fun p q h1 h2 h3 h4 => ?_, fun q h1 h2 => ?_, fun p h1 h2 h3 => ?_⟩
  · rw [e1 p (by omega) (by omega), e1 q (by omega) (by omega)]
    exact h.lo p q h1 h2 (by omega)
  · by_cases c : p = j + 1
    · subst c
      rw [e3, e1 q (by omega) (by omega)]
      exact h.x j q haj (by omega) (by omega) h3
    · rw [e1 p (by omega) c, e1 q (by omega) (by omega)]
      exact h.hi p q (by omega) h2 h3
  · rw [e1 p (by omega) (by omega)]
    by_cases c : q = j + 1
    · subst c
      rw [e3]
      exact h.lo p j h1 h2 (by omega)
    · rw [e1 q (by omega) c]
      exact h.x p q h1 (by omega) (by omega) h4
  · rw [e2]
    by_cases c : q = j + 1
    · subst c
      rw [e3]
      exact .inl hlt
    · rw [e1 q (by omega) c]
      exact h.xh q (by omega) h2
  · rw [e2]
    by_cases c : p = j + 1
    · subst c
      rw [e3]
      exact h.tg j haj (by omega) (by omega)
    · rw [e1 p h3 c]
      exact h.tg p h1 h2 c
theorem Ins.stop (hw : SWO lt) (h : Ins lt F0 a i j f) (haj : a ≤ j) (hji : j ≤ i) (he : j = a ∨ ∃ k, j = k + 1 ∧ ¬ lt (f j).1 (f k).1) : Srt (tl lt) a (i + 1) f := by
  have low : ∀ p, a ≤ p → p < j → tl lt (f p) (f j) := fun p h1 h2 => by
    rcases he with he | ⟨k, rfl, he⟩
    · omega
    · have hk : tl lt (f k) (f (k + 1)) := tl_of_not he (h.tg k (by omega) (by omega) (by omega))
      by_cases c : p = k
      · rw [c]; exact hk
      · exact tl_trans hw (h.lo p k h1 (by omega) (by omega)) hk
  intro p q h1 h2 h3
  rcases Nat.lt_trichotomy p j with c | c | c
  · rcases Nat.lt_trichotomy q j with d | d | d
    · exact h.lo p q h1 h2 d
    · rw [d]; exact low p h1 c
    · exact h.x p q h1 c d (by omega)
  · rw [c]; exact h.xh q (by omega) (by omega)
  · exact h.hi p q c h2 (by omega)
end

/-! ### Merging -/
/-- What rotate leaves: what stood in [m, b) ahead of what stood in [a, m). -/
def rotR {α : Type} (F : Nat → α) (a m b : Nat) : Nat → α := fun k => if a ≤ k ∧ k < a + (b - m) then F (k + (m - a)) else if a + (b - m) ≤ k ∧ k < b then F (k - (b - m)) else F k
section
variable {α : Type} {f : Nat → α} {s m e : Nat}
theorem rotR_1 (hs : s ≤ m) (he : m ≤ e) {k : Nat} (h1 : s ≤ k) (h2 : k < s + (e - m)) : rotR f s m e k = f (k + (m - s)) := by unfold rotR; rw [if_pos ⟨h1, h2⟩]
theorem rotR_2 (hs : s ≤ m) (he : m ≤ e) {k : Nat} (h1 : s + (e - m) ≤ k) (h2 : k < e) : rotR f s m e k = f (k - (e - m)) := by unfold rotR; rw [if_neg (by omega), if_pos ⟨h1, h2⟩]
theorem rotR_3 (hs : s ≤ m) (he : m ≤ e) {k : Nat} (h1 : k < s ∨ e ≤ k) : rotR f s m e k = f k := by unfold rotR; rw [if_neg (by omega), if_neg (by omega)]
theorem Same.rot (hs : s ≤ m) (he : m ≤ e) : Same s e f (rotR f s m e) := by
  refine ⟨fun i hi => rotR_3 hs he hi, fun i i1 i2 => ?_, fun i i1 i2 => ?_⟩
  · by_cases c : i < s + (e - m)
    · exact ⟨_, by omega, by omega, rotR_1 hs he i1 c⟩
    · exact ⟨_, by omega, by omega, rotR_2 hs he (by omega) i2⟩
  · by_cases c : i < m
    · refine ⟨i + (e - m), by omega, by omega, ?_⟩
      rw [rotR_2 hs he (by omega) (by omega)]
      congr 1; omega
    · refine ⟨i - (m - s), by omega, by omega, ?_⟩
      rw [rotR_1 hs he (by omega) (by omega)]
      congr 1; omega
theorem rotR_id1 (he : m = e) (hs : s ≤ m) : rotR f s m e = f := by
  funext k
  subst he
  by_cases c : s ≤ k ∧ k < m
  · rw [rotR_2 hs (Nat.le_refl _) (by omega) c.2]; congr 1; omega
  · exact rotR_3 hs (Nat.le_refl _) (by omega)
theorem rotR_id2 (he : m ≤ e) (hs : s = m) : rotR f s m e = f := by
  funext k
  subst hs
  by_cases c : s ≤ k ∧ k < e
  · rw [rotR_1 (Nat.le_refl _) he (by omega) (by omega)]; congr 1; omega
  · exact rotR_3 (Nat.le_refl _) he (by omega)
end

/-- What a merge starts from. -/
structure MP {β : Type} (lt : β → β → Prop) (a m b : Nat) (f : Nat → β × Nat) : Prop where
  l : Srt (tl lt) a m f
  r : Srt (tl lt) m b f
  t : ∀ p q, a ≤ p → p < m → m ≤ q → q < b → (f p).2 < (f q).2
section
variable {β : Type} {lt : β → β → Prop} {f : Nat → β × Nat} {a m b s e : Nat}
theorem MP.rot_srt (h : MP lt a m b f) (has : a ≤ s) (hs : s ≤ m) (he : m ≤ e) (heb : e ≤ b)
    (h1 : ∀ p q, a ≤ p → p < s → m ≤ q → q < e → tl lt (f p) (f q))
    (h2 : ∀ p q, m ≤ p → p < e → s ≤ q → q < m → tl lt (f p) (f q))
    (h3 : ∀ p q, s ≤ p → p < m → e ≤ q → q < b → tl lt (f p) (f q))
    (h4 : ∀ p q, a ≤ p → p < s → e ≤ q → q < b → tl lt (f p) (f q)) : Srt (tl lt) a b (rotR f s m e) := by
  intro p q hp hpq hq
  by_cases p1 : p < s
  · rw [rotR_3 hs he (.inl p1)]
    by_cases q1 : q < s
    · rw [rotR_3 hs he (.inl q1)]; exact h.l p q hp hpq (by omega)
    · by_cases q2 : q < s + (e - m)
      · rw [rotR_1 hs he (by omega) q2]; exact h1 _ _ hp p1 (by omega) (by omega)
      · by_cases q3 : q < e
        · rw [rotR_2 hs he (by omega) q3]; exact h.l _ _ hp (by omega) (by omega)
        · rw [rotR_3 hs he (.inr (by omega))]; exact h4 _ _ hp p1 (by omega) hq
  · by_cases p2 : p < s + (e - m)
    · rw [rotR_1 hs he (by omega) p2]
      by_cases q2 : q < s + (e - m)
      · rw [rotR_1 hs he (by omega) q2]; exact h.r _ _ (by omega) (by omega) (by omega)
      · by_cases q3 : q < e
        · rw [rotR_2 hs he (by omega) q3]; exact h2 _ _ (by omega) (by omega) (by omega) (by omega)
        · rw [rotR_3 hs he (.inr (by omega))]; exact h.r _ _ (by omega) (by omega) hq
    · by_cases p3 : p < e
      · rw [rotR_2 hs he (by omega) p3]
        by_cases q3 : q < e
        · rw [rotR_2 hs he (by omega) q3]; exact h.l _ _ (by omega) (by omega) (by omega)
        · rw [rotR_3 hs he (.inr (by omega))]; exact h3 _ _ (by omega) (by omega) (by omega) hq
      · rw [rotR_3 hs he (.inr (by omega)), rotR_3 hs he (.inr (by omega))]; exact h.r _ _ (by omega) hpq hq
/-- The left one of the two merges behind a rotation. -/
theorem MP.left (h : MP lt a m b f) (has : a ≤ s) (hs : s ≤ m) (he : m ≤ e) (heb : e ≤ b) : MP lt a s (s + (e - m)) (rotR f s m e) := by
  refine ⟨fun p q h1 h2 h3 => ?_, fun p q h1 h2 h3 => ?_, fun p q h1 h2 h3 h4 => ?_⟩
  · rw [rotR_3 hs he (.inl (by omega)), rotR_3 hs he (.inl h3)]; exact h.l p q h1 h2 (by omega)
  · rw [rotR_1 hs he h1 (by omega), rotR_1 hs he (by omega) h3]; exact h.r _ _ (by omega) (by omega) (by omega)
  · rw [rotR_3 hs he (.inl h2), rotR_1 hs he h3 h4]; exact h.t _ _ h1 (by omega) (by omega) (by omega)
theorem MP.right (h : MP lt a m b f) (has : a ≤ s) (hs : s ≤ m) (he : m ≤ e) (heb : e ≤ b) : MP lt (s + (e - m)) e b (rotR f s m e) := by
  refine ⟨fun p q h1 h2 h3 => ?_, fun p q h1 h2 h3 => ?_, fun p q h1 h2 h3 h4 => ?_⟩
  · rw [rotR_2 hs he h1 (by omega), rotR_2 hs he (by omega) h3]; exact h.l _ _ (by omega) (by omega) (by omega)
  · rw [rotR_3 hs he (.inr h1), rotR_3 hs he (.inr (by omega))]; exact h.r _ _ (by omega) h2 h3
  · rw [rotR_2 hs he h1 h2, rotR_3 hs he (.inr h3)]; exact h.t _ _ (by omega) (by omega) (by omega) h4
/-- All that stands in the left half behind a rotation is ahead of all that stands in the right half. -/
theorem MP.cross (hw : SWO lt) (h : MP lt a m b f) (has : a ≤ s) (hs : s ≤ m) (he : m ≤ e) (heb : e ≤ b)
    (c1 : ∀ p, p + 1 = s → a ≤ p → e < b → tl lt (f p) (f e)) (c2 : ∀ p, p + 1 = e → m ≤ p → s < m → tl lt (f p) (f s)) :
    ∀ p q, a ≤ p → p < s + (e - m) → s + (e - m) ≤ q → q < b → tl lt (rotR f s m e p) (rotR f s m e q) := by
  have le : ∀ x y u v, (u = x ∨ (tl lt (f u) (f x))) → tl lt (f x) (f y) → (y = v ∨ tl lt (f y) (f v)) → tl lt (f u) (f v) := fun x y u v h1 h2 h3 => by
    have k1 : tl lt (f u) (f y) := by rcases h1 with rfl | h1; exact h2; exact tl_trans hw h1 h2
    rcases h3 with rfl | h3
    · exact k1
    · exact tl_trans hw k1 h3
  intro p q hp hp2 hq hq2
  by_cases p1 : p < s
  · rw [rotR_3 hs he (.inl p1)]
    by_cases q1 : q < e
    · rw [rotR_2 hs he hq q1]; exact h.l _ _ hp (by omega) (by omega)
    · rw [rotR_3 hs he (.inr (by omega))]
      obtain ⟨z, rfl⟩ : ∃ z, s = z + 1 := ⟨s - 1, by omega⟩
      refine le z e p q ?_ (c1 z rfl (by omega) (by omega)) ?_
      · by_cases c : p = z
        · exact .inl c
        · exact .inr (h.l _ _ hp (by omega) (by omega))
      · by_cases c : e = q
        · exact .inl c
        · exact .inr (h.r _ _ (by omega) (by omega) hq2)
  · rw [rotR_1 hs he (by omega) hp2]
    by_cases q1 : q < e
    · rw [rotR_2 hs he hq q1]
      obtain ⟨z, rfl⟩ : ∃ z, e = z + 1 := ⟨e - 1, by omega⟩
      refine le z s _ _ ?_ (c2 z rfl (by omega) (by omega)) ?_
      · by_cases c : p + (m - s) = z
        · exact .inl c
        · exact .inr (h.r _ _ (by omega) (by omega) (by omega))
      · by_cases c : s = q - (z + 1 - m)
        · exact .inl c
        · exact .inr (h.l _ _ (by omega) (by omega) (by omega))
    · rw [rotR_3 hs he (.inr (by omega))]; exact h.r _ _ (by omega) (by omega) hq2
/-- Two sorted halves, the left one ahead of the right one. -/
theorem join_srt {R : β × Nat → β × Nat → Prop} {f1 g1 g2 : Nat → β × Nat} {mid : Nat} (ham : a ≤ mid) (hmb : mid ≤ b) (hc : ∀ p q, a ≤ p → p < mid → mid ≤ q → q < b → R (f1 p) (f1 q))
    (h1 : Same a mid f1 g1) (s1 : Srt R a mid g1) (h2 : Same mid b g1 g2) (s2 : Srt R mid b g2) : Same a b f1 g2 ∧ Srt R a b g2 := by
  refine ⟨(h1.wide (Nat.le_refl _) hmb).trans (h2.wide ham (Nat.le_refl _)), fun p q hp hpq hq => ?_⟩
  by_cases q1 : q < mid
  · rw [h2.out p (.inl (by omega)), h2.out q (.inl q1)]; exact s1 p q hp hpq q1
  · by_cases p1 : p < mid
    · obtain ⟨x, x1, x2, ex⟩ := h1.fro p hp p1
      obtain ⟨y, y1, y2, ey⟩ := h2.fro q (by omega) hq
      rw [h2.out p (.inl p1), ex, ey, h1.out y (.inr y1)]
      exact hc x y x1 x2 y1 y2
    · exact s2 p q (by omega) hpq hq
end

section
variable {β : Type} {lt : β → β → Prop} {f : Nat → β × Nat} {a m b : Nat}
theorem tl_lt (h : SWO lt) {p q r : β × Nat} (h1 : tl lt p q) (h2 : lt q.1 r.1) : lt p.1 r.1 := by
  refine Classical.byContradiction fun hn => ?_
  rcases h1 with h1 | ⟨h1, _⟩
  · exact h.ntrans _ _ _ hn (h.asymm _ _ h2) h1
  · exact h.ntrans _ _ _ h1 hn h2
theorem tl_lt2 (h : SWO lt) {p q r : β × Nat} (h1 : lt p.1 q.1) (h2 : tl lt q r) : lt p.1 r.1 := by
  refine Classical.byContradiction fun hn => ?_
  rcases h2 with h2 | ⟨h2, _⟩
  · exact h.ntrans _ _ _ hn (h.asymm _ _ h2) h1
  · exact h.ntrans _ _ _ hn h2 h1
/-- One element on the left: it goes behind all that are less. -/
theorem MP.one_left (h : MP lt a (a + 1) b f) (i : Nat) (h1 : a + 1 ≤ i) (h2 : i ≤ b) (hl : ∀ p, a + 1 ≤ p → p < i → lt (f p).1 (f a).1) (hg : ∀ p, i ≤ p → p < b → ¬ lt (f p).1 (f a).1) :
    Same a b f (rotR f a (a + 1) i) ∧ Srt (tl lt) a b (rotR f a (a + 1) i) := by
  refine ⟨(Same.rot (by omega) h1).wide (Nat.le_refl _) h2, h.rot_srt (Nat.le_refl _) (by omega) h1 h2 (fun p q h1 h2 _ _ => by omega) (fun p q h3 h4 h5 h6 => ?_) (fun p q h3 h4 h5 h6 => ?_) (fun p q h1 h2 _ _ => by omega)⟩
  · obtain rfl : q = a := by omega
    exact .inl (hl p h3 h4)
  · obtain rfl : p = a := by omega
    exact .inr ⟨hg q h5 h6, h.t p q (Nat.le_refl _) (by omega) (by omega) h6⟩
/-- One element on the right: it goes ahead of all that are greater. -/
theorem MP.one_right (h : MP lt a m (m + 1) f) (i : Nat) (h1 : a ≤ i) (h2 : i ≤ m) (hl : ∀ p, a ≤ p → p < i → ¬ lt (f m).1 (f p).1) (hg : ∀ p, i ≤ p → p < m → lt (f m).1 (f p).1) :
    Same a (m + 1) f (rotR f i m (m + 1)) ∧ Srt (tl lt) a (m + 1) (rotR f i m (m + 1)) := by
  refine ⟨(Same.rot h2 (by omega)).wide h1 (Nat.le_refl _), h.rot_srt h1 h2 (by omega) (Nat.le_refl _) (fun p q h3 h4 h5 h6 => ?_) (fun p q h3 h4 h5 h6 => ?_) (fun p q _ _ h1 h2 => by omega) (fun p q _ _ h1 h2 => by omega)⟩
  · obtain rfl : q = m := by omega
    exact .inr ⟨hl p h3 h4, h.t p q h3 (by omega) (Nat.le_refl _) h6⟩
  · obtain rfl : p = m := by omega
    exact .inl (hg q h5 h6)
end
theorem MP.of_left {β : Type} {lt : β → β → Prop} {x m e y : Nat} {F G : Nat → β × Nat} (h : MP lt m e y F) (hs : Same x m F G) (hme : m ≤ e) : MP lt m e y G := by
  have eq : ∀ i, m ≤ i → G i = F i := fun i hi => hs.out i (.inr hi)
  refine ⟨fun p q h1 h2 h3 => ?_, fun p q h1 h2 h3 => ?_, fun p q h1 h2 h3 h4 => ?_⟩
  · rw [eq p h1, eq q (by omega)]; exact h.l p q h1 h2 h3
  · rw [eq p (by omega), eq q (by omega)]; exact h.r p q h1 h2 h3
  · rw [eq p h1, eq q (by omega)]; exact h.t p q h1 h2 h3 h4
theorem rotR_map {α γ : Type} (h : α → γ) (f : Nat → α) (a m b i : Nat) : h (rotR f a m b i) = rotR (fun k => h (f k)) a m b i := by
  unfold rotR
  split
  · rfl
  · split <;> rfl
theorem rot_step_up {α : Type} (f : Nat → α) (a k i : Nat) (hk : a ≤ k) : swp (rotR f a (a + 1) (k + 1)) k (k + 1) i = rotR f a (a + 1) (k + 1 + 1) i := by
  unfold swp rotR
  repeat' split
  all_goals first | rfl | (exfalso; omega) | (refine congrArg f ?_; omega)
theorem rot_step_down {α : Type} (f : Nat → α) (m k i : Nat) (hk : k + 1 ≤ m) : swp (rotR f (k + 1) m (m + 1)) (k + 1) k i = rotR f k m (m + 1) i := by
  unfold swp rotR
  repeat' split
  all_goals first | rfl | (exfalso; omega) | (refine congrArg f ?_; omega)

/-! ### The stable order as a function -/
def ins {β : Type} (lt : β → β → Prop) [DecidableRel lt] (x : β) : List β → List β
  | [] => [x]
  | y :: ys => if lt y x then y :: ins lt x ys else x :: y :: ys
def isort {β : Type} (lt : β → β → Prop) [DecidableRel lt] : List β → List β
  | [] => []
  | x :: xs => ins lt x (isort lt xs)
section
variable {β : Type} {lt : β → β → Prop} [DecidableRel lt]
theorem mem_ins {x y : β} : ∀ {l : List β}, y ∈ ins lt x l ↔ y = x ∨ y ∈ l
  | [] => by simp [ins]
  | z :: zs => by
    unfold ins
    split
    · rw [List.mem_cons, mem_ins, List.mem_cons]
      constructor
      · rintro (h | h | h)
        · exact .inr (.inl h)
        · exact .inl h
        · exact .inr (.inr h)
      · rintro (h | h | h)
        · exact .inr (.inl h)
        · exact .inl h
        · exact .inr (.inr h)
    · simp
theorem mem_isort {y : β} : ∀ {l : List β}, y ∈ isort lt l ↔ y ∈ l
  | [] => by simp [isort]
  | x :: xs => by
    unfold isort
    rw [mem_ins, mem_isort, List.mem_cons]
theorem length_ins {x : β} : ∀ {l : List β}, (ins lt x l).length = l.length + 1
  | [] => rfl
  | z :: zs => by
    unfold ins
    split
    · simp [length_ins]
    · simp
theorem length_isort : ∀ {l : List β}, (isort lt l).length = l.length
  | [] => rfl
  | x :: xs => by
    unfold isort
    rw [length_ins, length_isort, List.length_cons]
end
section
variable {β : Type} {lt : β → β → Prop} [DecidableRel lt]
noncomputable instance tlDec : DecidableRel (tl lt) := fun _ _ => Classical.propDecidable _
/-- Inserting an element whose tag is below all others. -/
theorem ins_map (h : SWO lt) (x : β × Nat) : ∀ (l : List (β × Nat)), (∀ y ∈ l, x.2 < y.2) → (ins (tl lt) x l).map (·.1) = ins lt x.1 (l.map (·.1))
  | [], _ => rfl
  | y :: ys, ht => by
    have hy := ht y (List.mem_cons_self ..)
    rw [List.map_cons, ins, ins]
    by_cases c : lt y.1 x.1
    · rw [if_pos (.inl c), if_pos c, List.map_cons, ins_map h x ys (fun z hz => ht z (List.mem_cons_of_mem _ hz))]
    · have : ¬ tl lt y x := fun hc => by
        rcases hc with hc | ⟨_, hc⟩
        · exact c hc
        · omega
      rw [if_neg this, if_neg c]
      rfl
theorem isort_map (h : SWO lt) : ∀ (l : List (β × Nat)), l.Pairwise (fun p q => p.2 < q.2) → (isort (tl lt) l).map (·.1) = isort lt (l.map (·.1))
  | [], _ => rfl
  | x :: xs, hp => by
    rw [List.pairwise_cons] at hp
    unfold isort
    rw [ins_map h x _ (fun y hy => hp.1 y (mem_isort.1 hy)), isort_map h xs hp.2]
    rfl
end
section
variable {β : Type} {lt : β → β → Prop}
theorem ins_pairwise (h : SWO lt) (x : β × Nat) : ∀ (l : List (β × Nat)), l.Pairwise (tl lt) → (∀ y ∈ l, x.2 < y.2) → (ins (tl lt) x l).Pairwise (tl lt)
  | [], _, _ => by simp [ins]
  | y :: ys, hp, ht => by
    have hy := ht y (List.mem_cons_self ..)
    have hp' := List.pairwise_cons.1 hp
    unfold ins
    split
    · rename_i c
      refine List.pairwise_cons.2 ⟨fun z hz => ?_, ins_pairwise h x ys hp'.2 (fun z hz => ht z (List.mem_cons_of_mem _ hz))⟩
      rcases mem_ins.1 hz with rfl | hz
      · exact c
      · exact hp'.1 z hz
    · rename_i c
      have hxy : tl lt x y := tl_of_not (fun hc => c (.inl hc)) hy
      refine List.pairwise_cons.2 ⟨fun z hz => ?_, hp⟩
      rcases List.mem_cons.1 hz with rfl | hz
      · exact hxy
      · exact tl_trans h hxy (hp'.1 z hz)
theorem isort_pairwise (h : SWO lt) : ∀ (l : List (β × Nat)), l.Pairwise (fun p q => p.2 < q.2) → (isort (tl lt) l).Pairwise (tl lt)
  | [], _ => by simp [isort]
  | x :: xs, hp => by
    rw [List.pairwise_cons] at hp
    unfold isort
    exact ins_pairwise h x _ (isort_pairwise h xs hp.2) (fun y hy => hp.1 y (mem_isort.1 hy))
/-- Two rows in one strict order with the same elements are one. -/
theorem eq_of_pairwise {α : Type} {R : α → α → Prop} (hi : ∀ x, ¬ R x x) (hr : ∀ x y, R x y → ¬ R y x) : ∀ (l m : List α), l.Pairwise R → m.Pairwise R → (∀ x, x ∈ l ↔ x ∈ m) → l = m
  | [], [], _, _, _ => rfl
  | [], y :: ys, _, _, h => absurd ((h y).2 (List.mem_cons_self ..)) (by simp)
  | x :: xs, [], _, _, h => absurd ((h x).1 (List.mem_cons_self ..)) (by simp)
  | x :: xs, y :: ys, hl, hm, h => by
    have hl' := List.pairwise_cons.1 hl
    have hm' := List.pairwise_cons.1 hm
    have e : x = y := by
      rcases List.mem_cons.1 ((h x).1 (List.mem_cons_self ..)) with e | hx
      · exact e
      · rcases List.mem_cons.1 ((h y).2 (List.mem_cons_self ..)) with e | hy
        · exact e.symm
        · exact absurd (hl'.1 y hy) (hr _ _ (hm'.1 x hx))
    subst e
    rw [eq_of_pairwise hi hr xs ys hl'.2 hm'.2 (fun z => ?_)]
    constructor
    · intro hz
      rcases List.mem_cons.1 ((h z).1 (List.mem_cons_of_mem _ hz)) with e | hz'
      · subst e; exact absurd (hl'.1 _ hz) (hi _)
      · exact hz'
    · intro hz
      rcases List.mem_cons.1 ((h z).2 (List.mem_cons_of_mem _ hz)) with e | hz'
      · subst e; exact absurd (hm'.1 _ hz) (hi _)
      · exact hz'
/-- A row sorted with its tags reads as the stable order. -/
theorem isort_of [DecidableRel lt] (h : SWO lt) (L : List β) (d : β) (f : Nat → β × Nat) (hs : Same 0 L.length (fun i => (L.getD i d, i)) f) (ht : Srt (tl lt) 0 L.length f) :
    ∀ i, i < L.length → (f i).1 = (isort lt L).getD i d := by
  have hT : ((List.range L.length).map fun i => (L.getD i d, i)).Pairwise (fun p q => p.2 < q.2) := by
    rw [List.pairwise_map]
    exact List.pairwise_lt_range.imp fun h => h
  have hmap : ((List.range L.length).map fun i => (L.getD i d, i)).map (·.1) = L := by
    rw [List.map_map]
    apply List.ext_getElem
    · simp
    · intro i h1 h2
      simp [List.getD_eq_getElem?_getD, List.getElem?_eq_getElem h2]
  have e : (List.range L.length).map f = isort (tl lt) ((List.range L.length).map fun i => (L.getD i d, i)) := by
    refine eq_of_pairwise (fun x hx => tl_irrefl h hx) (fun x y h1 h2 => tl_asymm h h1 h2) _ _ ?_ (isort_pairwise h _ hT) (fun x => ?_)
    · rw [List.pairwise_map]
      refine List.Pairwise.imp_of_mem ?_ List.pairwise_lt_range
      intro a b ha hb hab
      exact ht a b (Nat.zero_le _) hab (by simpa using hb)
    · rw [mem_isort]
      simp only [List.mem_map, List.mem_range]
      constructor
      · rintro ⟨i, hi, rfl⟩
        obtain ⟨j, _, hj, e⟩ := hs.fro i (Nat.zero_le _) hi
        exact ⟨j, hj, e.symm⟩
      · rintro ⟨j, hj, rfl⟩
        obtain ⟨i, _, hi, e⟩ := hs.to j (Nat.zero_le _) hj
        exact ⟨i, hi, e⟩
  intro i hi
  have e2 := congrArg (fun l => (l.map (·.1)).getD i d) e
  rw [isort_map h _ hT, hmap] at e2
  rw [← e2, List.map_map]
  simp [List.getD_eq_getElem?_getD, hi]

/-! ### Blocks that are sorted -/
/-- The block of len elements from a on is sorted, and holds what stood there. -/
structure Good {β : Type} (lt : β → β → Prop) (n a len : Nat) (f : Nat → β × Nat) : Prop where
  t : ∀ i, a ≤ i → i < a + len → i < n → a ≤ (f i).2 ∧ (f i).2 < a + len
  s : ∀ i j, a ≤ i → i < j → j < a + len → j < n → tl lt (f i) (f j)
theorem dvd_gap {k a b : Nat} (ha : k ∣ a) (hb : k ∣ b) (h : a < b) : a + k ≤ b := by
  obtain ⟨x, rfl⟩ := ha
  obtain ⟨y, rfl⟩ := hb
  have : x < y := Nat.lt_of_mul_lt_mul_left h
  calc k * x + k = k * (x + 1) := by rw [Nat.mul_add, Nat.mul_one]
    _ ≤ k * y := Nat.mul_le_mul_left _ this
section
variable {n a len : Nat} {f g : Nat → β × Nat}
theorem Good.congr (h : Good lt n a len f) (e : ∀ i, a ≤ i → i < a + len → i < n → g i = f i) : Good lt n a len g :=
  ⟨fun i h1 h2 h3 => by rw [e i h1 h2 h3]; exact h.t i h1 h2 h3, fun i j h1 h2 h3 h4 => by rw [e i h1 (by omega) (by omega), e j (by omega) h3 h4]; exact h.s i j h1 h2 h3 h4⟩
/-- Two neighbours are merged from here. -/
theorem Good.mp {b : Nat} (h1 : Good lt n a len f) (h2 : Good lt n (a + len) len f) (hb : b ≤ a + len + len) (hbn : b ≤ n) (hm : a + len ≤ b) : MP lt a (a + len) b f :=
  ⟨fun p q p1 p2 p3 => h1.s p q p1 p2 p3 (by omega), fun p q p1 p2 p3 => h2.s p q p1 p2 (by omega) (by omega), fun p q p1 p2 p3 p4 => by
    have := h1.t p p1 p2 (by omega)
    have := h2.t q p3 (by omega) (by omega)
    omega⟩
/-- What a merge makes is good. -/
theorem Good.of_merge {b : Nat} (h1 : Good lt n a len f) (h2 : Good lt n (a + len) len f) (hb : b = min (a + (len + len)) n) (hs : Same a b f g) (ht : Srt (tl lt) a b g) : Good lt n a (len + len) g := by
  refine ⟨fun i p1 p2 p3 => ?_, fun i j p1 p2 p3 p4 => ht i j p1 p2 (by omega)⟩
  obtain ⟨j, j1, j2, e⟩ := hs.fro i p1 (by omega)
  rw [e]
  by_cases c : j < a + len
  · have := h1.t j j1 c (by omega); omega
  · have := h2.t j (by omega) (by omega) (by omega); omega
end
end

end Go.Proofs.Ytdbogephaddbjaa
