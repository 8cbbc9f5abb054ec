/- What slot.Begins keeps between two legs, and between two windows of a leg. -/
import Derived.Test.YtdbogephaddbjaaSlotE
import Derived.Tactics
import Derived.Tactics2
import Derived.WalkKit
import Derived.LoopTactic
import Derived.WalkLawsBesides
import Derived.WalkSpells
import Derived.Outline
import Derived.Deep.QuietTactic
import Derived.BigQuiet
import Derived.Deep.DeepCutAuto
import Derived.Deep.LoopGhost
import Derived.Deep.RegionHeld3
import Derived.RegionTactic
import Derived.KernelRfl
import Derived.Lib.Hide
set_option linter.unusedVariables false
set_option linter.unusedSimpArgs false
namespace Go.Proofs.Ytdbogephaddbjaa
open Go.RowKit
attribute [local go_sem] Oper.semAt_some

/-- Rows of times that can be read, in a block that is not of a set. -/
def SafeWins (S : Nat → Prop) (W : World) (v : Value) (L : List Win) : Prop :=
  ∃ A c, v = .slice A L.length c ∧ L.length ≤ c ∧ (L ≠ [] → ∃ b off, A = some ⟨b, off, none⟩ ∧ b < W.heap.size ∧ ¬ S b ∧ ∀ i x, L[i]? = some x → ∀ j u, x.cells[j]? = some u → W.cell? ⟨b, off + i * 2 + j, none⟩ = some u)
theorem SafeWins.mod {S S' M : Nat → Prop} {W W' : World} {v : Value} {L : List Win} (h : SafeWins S W v L) (hm : Mod M W W') (hM : ∀ b, b < W.heap.size → ¬ S b → ¬ M b) (hS : ∀ b, S' b → S b ∨ W.heap.size ≤ b) : SafeWins S' W' v L := by
  obtain ⟨A, c, e, hc, h⟩ := h
  refine ⟨A, c, e, hc, fun hn => ?_⟩
  obtain ⟨b, off, eA, hb, hs, hcell⟩ := h hn
  refine ⟨b, off, eA, by have := hm.size; omega, fun h => ?_, fun i x hx j u hu => ?_⟩
  · rcases hS b h with h | h
    · exact hs h
    · omega
  · rw [World.cell?_of_block (w := W) (hm.block b hb (hM b hb hs))]
    exact hcell i x hx j u hu
/-- Rows of times that can be read. -/
def RdWins (W : World) (v : Value) (L : List Win) : Prop := ∃ A c, v = .slice A L.length c ∧ L.length ≤ c ∧ Wins W W.heap.size A L
theorem SafeWins.rd {S : Nat → Prop} {W : World} {v : Value} {L : List Win} (h : SafeWins S W v L) : RdWins W v L := by
  obtain ⟨A, c, e, hc, h⟩ := h
  refine ⟨A, c, e, hc, fun hn => ?_⟩
  obtain ⟨b, off, eA, hb, hs, hcell⟩ := h hn
  exact ⟨b, off, eA, hb, hcell⟩
theorem RdWins.safe {S : Nat → Prop} {W : World} {v : Value} {L : List Win} (h : RdWins W v L) (hS : ∀ b, S b → W.heap.size ≤ b) : SafeWins S W v L := by
  obtain ⟨A, c, e, hc, h⟩ := h
  refine ⟨A, c, e, hc, fun hn => ?_⟩
  obtain ⟨b, off, eA, hb, hcell⟩ := h hn
  exact ⟨b, off, eA, hb, fun h => by have := hS b h; omega, hcell⟩
theorem RdWins.nil {W : World} : RdWins W (.slice none 0 0) [] := ⟨none, 0, rfl, Nat.le_refl _, Rows.nil⟩
theorem RdWins.bl {W W' : World} {v : Value} {L : List Win} (h : RdWins W v L) (hb : Below W.heap.size W W') : RdWins W' v L := by
  obtain ⟨A, c, e, hc, h⟩ := h
  exact ⟨A, c, e, hc, h.bl hb⟩
theorem OutRow.cap {w : World} {base : Nat} {e : TypeId} {size : Nat} {n c : Nat} {A : Option Addr} {xs : List Value} (h : OutRow w base e size (.slice A n c) n xs) : n ≤ c := by
  rcases h with h | ⟨rfl, _⟩
  · rcases h.2 with ⟨e, h0⟩ | ⟨g, cap, cur, e, hb, hh, h1, h2, _⟩
    · injection e with _ e2 e3; omega
    · injection e with _ e2 e3; subst e3; first | exact h1 | exact h2 | omega
  · omega
/-- What without has told lies in blocks that are no others'. -/
theorem OutWins.safe {S : Nat → Prop} {w : World} {base : Nat} {L : List Win} {v : Value} (h : OutWins w base v L) (hS : ∀ b, S b → b < base) : SafeWins S w v L := by
  obtain ⟨A, c, rfl⟩ := h.form
  refine ⟨A, c, rfl, h.cap, fun hn => ?_⟩
  have hl : 0 < L.length := List.length_pos_iff.2 hn
  obtain ⟨b, off, e, hb, hcell⟩ := h.rows hn
  refine ⟨b, off, e, hb, fun hs => ?_, hcell⟩
  have := hS b hs
  rcases h with h | ⟨h0, _⟩
  · have := (h.lt b (by rw [e]; rfl)).1
    omega
  · omega
theorem OutWins.rd {w : World} {base : Nat} {L : List Win} {v : Value} (h : OutWins w base v L) : RdWins w v L := (h.safe (S := fun _ => False) fun _ h => h.elim).rd

/-- The marks among an activation's deferred calls. -/
structure Marks (N B : Nat) (W : World) (ds : List Deferred) : Prop where
  m : ∀ d ∈ ds, ∃ r, d.target = .collected r ∧ N ≤ r ∧ r < B ∧ W.heap[r]? = some (.deferred (some []))
  p : ds.Pairwise fun a b => ∀ r, a.target = .collected r → b.target ≠ .collected r
def markOf (ds : List Deferred) (b : Nat) : Prop := ∃ d ∈ ds, d.target = .collected b
theorem Marks.mod {N B B' : Nat} {W W' : World} {ds : List Deferred} (h : Marks N B W ds) {M : Nat → Prop} (hM : Mod M W W') (hn : ∀ b, b < B → ¬ M b) (hB : B ≤ B') : Marks N B' W' ds :=
  ⟨fun d hd => by
    obtain ⟨r, h1, h2, h3, h4⟩ := h.m d hd
    exact ⟨r, h1, h2, by omega, hM.heap h4 (hn r h3)⟩, h.p⟩
theorem Marks.bl {N B : Nat} {W W' : World} {ds : List Deferred} (h : Marks N B W ds) (hb : Below W.heap.size W W') : Marks N B W' ds := h.mod (M := fun _ => False) (Mod.of_bl hb) (fun _ _ h => h) (Nat.le_refl _)
theorem Marks.mod' {N B : Nat} {W W' : World} {ds : List Deferred} (h : Marks N B W ds) {M : Nat → Prop} (hM : Mod M W W') (hn : ∀ r d, d ∈ ds → d.target = .collected r → ¬ M r) : Marks N B W' ds :=
  ⟨fun d hd => by
    obtain ⟨r, h1, h2, h3, h4⟩ := h.m d hd
    exact ⟨r, h1, h2, h3, hM.heap h4 (hn r d hd h1)⟩, h.p⟩
theorem no_mark {W : World} {r : Nat} {x : Option (List Deferred)} {off : Nat} {v : Value} (h : W.heap[r]? = some (.deferred x)) (hc : W.cell? ⟨r, off, none⟩ = some v) : False := by
  unfold World.cell? at hc
  dsimp only at hc
  rw [h] at hc
  cases hc
theorem Marks.cons {N B : Nat} {W : World} {ds : List Deferred} (h : Marks N B W ds) {r : Nat} {ar : Array Value} (hr : B ≤ r) (hN : N ≤ r) (hh : W.heap[r]? = some (.deferred (some []))) : Marks N (r + 1) W ({ target := .collected r, args := ar } :: ds) :=
  ⟨fun d hd => by
    rcases List.mem_cons.1 hd with rfl | hd
    · exact ⟨r, rfl, hN, Nat.lt_succ_self _, hh⟩
    · obtain ⟨q, h1, h2, h3, h4⟩ := h.m d hd
      exact ⟨q, h1, h2, by omega, h4⟩, List.pairwise_cons.2 ⟨fun d hd q hq e => by
    obtain ⟨q', h1, h2, h3, h4⟩ := h.m d hd
    dsimp only at hq
    rw [h1] at e
    injection hq with hq
    injection e with e
    omega, h.p⟩⟩
theorem leaves_marks {n : Nat} {P : Program} {fn : Func} {tmps : Array Value} {R : Ending → World → Prop} {N B : Nat} : ∀ (ds : List Deferred) (W : World), Marks N B W ds →
    (∀ W', Mod (markOf ds) W W' → LeavesInM Fence.wide n P fn tmps R [] .returning W') → LeavesInM Fence.wide n P fn tmps R ds .returning W
  | [], W, _, h => h W Mod.refl
  | d :: ds, W, hm, h => by
    obtain ⟨r, h1, h2, h3, h4⟩ := hm.m d (by simp)
    have hp := List.pairwise_cons.1 hm.p
    have hM : Mod (fun b => b = r) W (W.putObj r (.deferred none)) := Mod.putObj _ rfl
    refine ⟨by simp, .inl ⟨r, _, h1, run_takeDeferred h4, leaves_marks (N := N) (B := B) ds _ ⟨fun d' hd' => ?_, hp.2⟩ fun W' hW' => h W' ?_⟩⟩
    · obtain ⟨q, g1, g2, g3, g4⟩ := hm.m d' (by simp [hd'])
      refine ⟨q, g1, g2, g3, hM.heap g4 fun e => ?_⟩
      subst e
      exact hp.1 d' hd' q h1 g1
    · exact (hM.wide fun b e => by subst e; exact ⟨d, by simp, h1⟩).trans (hW'.wide fun b ⟨d', hd', e⟩ => ⟨d', by simp [hd'], e⟩)
theorem RdWins.marks {N B : Nat} {W W' : World} {ds : List Deferred} {v : Value} {L : List Win} (h : RdWins W v L) (hm : Marks N B W ds) (hM : Mod (markOf ds) W W') : RdWins W' v L := by
  obtain ⟨A, c, e, hc, h⟩ := h
  refine ⟨A, c, e, hc, fun hn => ?_⟩
  obtain ⟨b, off, eA, hb, hcell⟩ := h hn
  refine ⟨b, off, eA, by have := hM.size; omega, fun i x hx j u hu => ?_⟩
  have h0 := hcell i x hx j u hu
  have hno : ¬ markOf ds b := by
    rintro ⟨d, hd, e⟩
    obtain ⟨r, h1, _, _, h4⟩ := hm.m d hd
    rw [h1] at e
    injection e with e
    subst e
    unfold World.cell? at h0
    dsimp only at h0
    rw [h4] at h0
    cases h0
  exact (World.cell?_of_block (w := W) (hM.block b hb hno)).trans h0

theorem Marks.lo {N B : Nat} {W : World} {ds : List Deferred} (h : Marks N B W ds) {b : Nat} (hb : markOf ds b) : N ≤ b := by
  obtain ⟨d, hd, e⟩ := hb
  obtain ⟨r, h1, h2, _⟩ := h.m d hd
  rw [h1] at e
  injection e with e
  omega
def legSt (F : List Seg) (L : List Leg) (f t : Int) (k : Nat) : Int × List Win := (L.take k).foldl (legStep F ⟨f, t⟩) (0, [⟨f, t - sumD L + 1⟩])
/-- What Begins keeps between two legs. -/
structure BegInv (w W : World) (bo : Nat) (F : List Seg) (L : List Leg) (f t : Int) (k : Nat) (ds : List Deferred) : Prop where
  lo : Below w.heap.size w W
  b : Bx W w.heap.size [.int .i64 f, .int .i64 t]
  a : Bx W (bo + 1) [.int .i64 (legSt F L f t k).1]
  o : ∃ v, Bx W bo [v] ∧ SafeWins (fun b => b = bo ∨ b = bo + 1) W v (legSt F L f t k).2
  z0 : w.heap.size < bo
  z : bo + 2 ≤ W.heap.size
  ds : Marks w.heap.size W.heap.size W ds

/-- What stands where a leg's windows are gone over: the leg's box, and the iterator's three. -/
structure RngEnv (W W2 : World) (A : Option Addr) (F : List Seg) (c : Nat) (f t : Int) (x : Leg) : Prop where
  b : Below W.heap.size W W2
  z : W2.heap.size = W.heap.size + 4
  yx : Bx W2 W.heap.size x.cells
  yf : Bx W2 (W.heap.size + 1) [.slice A F.length c]
  yw : Bx W2 (W.heap.size + 1 + 1) [.int .i64 f, .int .i64 t]
  yv : Bx W2 (W.heap.size + 1 + 1 + 1) [.int .i64 x.v.m, .int .i64 x.v.c]
theorem RngEnv.mk' (W : World) (A : Option Addr) (F : List Seg) (c : Nat) (f t : Int) (x : Leg) :
    RngEnv W ((((W.alloc (.cells #[.int .i64 x.d, .int .i64 x.v.m, .int .i64 x.v.c] 53)).alloc (.cells #[.slice A F.length c] 22)).alloc (.cells #[.int .i64 f, .int .i64 t] 24)).alloc (.cells #[.int .i64 x.v.m, .int .i64 x.v.c] 51)) A F c f t x := by
  have y0 := Bx.new W x.cells 53
  have y1 := Bx.new (W.alloc (.cells x.cells.toArray 53)) [.slice A F.length c] 22
  have y2 := Bx.new ((W.alloc (.cells x.cells.toArray 53)).alloc (.cells #[.slice A F.length c] 22)) [.int .i64 f, .int .i64 t] 24
  have y3 := Bx.new (((W.alloc (.cells x.cells.toArray 53)).alloc (.cells #[.slice A F.length c] 22)).alloc (.cells #[.int .i64 f, .int .i64 t] 24)) [.int .i64 x.v.m, .int .i64 x.v.c] 51
  simp only [World.size_alloc] at y1 y2 y3
  exact ⟨by (repeat (first | exact bl_refl | assumption | apply bl_alloc | apply bl_drew | apply bl_drewN | (apply bl_set; (case hp => first | (simp; done) | (simp; omega))) | (apply bl_trans2; (case k => assumption)))), by simp, ((y0.alloc _).alloc _).alloc _, (y1.alloc _).alloc _, y2.alloc _, y3⟩
def cutsTo (F : List Seg) (f t : Int) (x : Leg) (ahead : Int) (out : List Win) (j : Nat) : List Win := ((lowF F ⟨f, t⟩ x.v).take j).foldl (fun o b => withoutF o (badW x ahead b)) out
/-- What Begins keeps between two windows of a leg. -/
structure RngInv (w W2 : World) (bo bx : Nat) (F : List Seg) (f t : Int) (x : Leg) (ahead : Int) (out : List Win) (ds : List Deferred) (S : Nat → Prop) (j : Nat) (W : World) : Prop where
  lo : Below w.heap.size w W
  z : W2.heap.size + 2 ≤ W.heap.size
  b : Bx W w.heap.size [.int .i64 f, .int .i64 t]
  a : Bx W (bo + 1) [.int .i64 ahead]
  xb : Bx W bx x.cells
  o : ∃ v, Bx W bo [v] ∧ SafeWins (fun b => (S b ∨ b = W2.heap.size ∨ b = W2.heap.size + 1) ∨ b = bo ∨ b = bo + 1) W v (cutsTo F f t x ahead out j)
  ds : Marks w.heap.size W2.heap.size W ds
theorem RngInv.mod {w W2 : World} {bo bx : Nat} {F : List Seg} {f t : Int} {x : Leg} {ahead : Int} {out : List Win} {ds : List Deferred} {S S' : Nat → Prop} {j : Nat} {W W' : World} (h : RngInv w W2 bo bx F f t x ahead out ds S j W)
    (hM : Mod (fun b => False ∨ S b ∨ b = W2.heap.size ∨ b = W2.heap.size + 1) W W') (hS : ∀ b, S b → W2.heap.size + 2 ≤ b) (hSS : ∀ b, S' b → S b ∨ W.heap.size ≤ b) (h1 : w.heap.size < W2.heap.size) (h2 : bo + 1 < W2.heap.size) (h3 : bx < W2.heap.size) :
    RngInv w W2 bo bx F f t x ahead out ds S' j W' := by
  have no : ∀ b, b < W2.heap.size → ¬ (False ∨ S b ∨ b = W2.heap.size ∨ b = W2.heap.size + 1) := fun b hb h => by
    rcases h with h | h | h | h
    · exact h
    · have := hS b h; omega
    · omega
    · omega
  obtain ⟨v, v1, v2⟩ := h.o
  have hz := h.z
  have hz' := hM.size
  refine ⟨h.lo.trans (hM.below h.lo.size fun b hb => ?_), by omega, h.b.mod hM (no _ h1), h.a.mod hM (no _ h2), h.xb.mod hM (no _ h3), ⟨v, v1.mod hM (no _ (by omega)), v2.mod hM (fun b _ hn hb => ?_) fun b hb => ?_⟩, h.ds.mod hM no (Nat.le_refl _)⟩
  · by_cases hbb : b < W2.heap.size
    · exact absurd hb (no b hbb)
    · omega
  · rcases hb with hb | hb
    · exact hb
    · exact hn (.inl hb)
  · rcases hb with (hb | hb) | hb
    · rcases hSS b hb with h | h
      · exact .inl (.inl (.inl h))
      · exact .inr h
    · exact .inl (.inl (.inr hb))
    · exact .inl (.inr hb)
theorem BegInv.rng {w W W2 : World} {bo : Nat} {A : Option Addr} {F : List Seg} {L : List Leg} {c : Nat} {f t : Int} {k : Nat} {ds : List Deferred} {x : Leg} (h : BegInv w W bo F L f t k ds) (hE : RngEnv W W2 A F c f t x) {S : Nat → Prop} {W' : World}
    (hM : Mod (fun _ => False) W2 W') (hS : ∀ b, S b → W2.heap.size + 2 ≤ b) (hz : W2.heap.size + 2 ≤ W'.heap.size) :
    RngInv w W2 bo W.heap.size F f t x (legSt F L f t k).1 (legSt F L f t k).2 ds S 0 W' := by
  have hb2 : Below W2.heap.size W2 W' := hM.below (Nat.le_refl _) fun _ h => h.elim
  have hb : Below W.heap.size W W' := bl_trans hE.b hb2
  have hz2 := hE.z
  have hz0 := h.z
  obtain ⟨v, v1, v2⟩ := h.o
  refine ⟨h.lo.trans (hb.mono h.lo.size), hz, h.b.bl hb, h.a.bl hb, hE.yx.bl hb2, ⟨v, v1.bl hb, ?_⟩, (h.ds.bl hb).mod (M := fun _ => False) Mod.refl (fun _ _ h => h) (by omega)⟩
  exact v2.mod (M := fun _ => False) (Mod.of_bl hb) (fun _ _ _ h => h) (fun b hb => by
    rcases hb with (hb | hb | hb) | hb
    · have := hS b hb; exact .inr (by omega)
    · exact .inr (by omega)
    · exact .inr (by omega)
    · exact .inl hb)

theorem legs_fst (F : List Seg) (w : Win) : ∀ (L : List Leg) (a : Int) (out : List Win), (L.foldl (legStep F w) (a, out)).1 = a + sumD L
  | [], a, out => by simp [sumD]
  | x :: L, a, out => by
    rw [List.foldl_cons]
    show (L.foldl (legStep F w) (a + x.d, _)).1 = _
    rw [legs_fst F w L]
    simp only [sumD, List.map_cons, List.sum_cons]
    omega
theorem legSt_bd {F : List Seg} {L : List Leg} {f t : Int} (k : Nat) (h : ∀ x ∈ L, 1 ≤ x.d ∧ x.d ≤ 4096) (hl : L.length ≤ 16) : 0 ≤ (legSt F L f t k).1 ∧ (legSt F L f t k).1 ≤ 65536 := by
  unfold legSt
  rw [legs_fst]
  have := sumD_bd (L.take k) (List.all_eq_true.2 fun x hx => by have := h x (List.mem_of_mem_take hx); unfold dOk; simpa using this)
  rw [List.length_take] at this
  omega
theorem legSt_parted {F : List Seg} {L : List Leg} {f t : Int} (hC : CheckOk F ⟨f, t⟩ L) (hs : sumD L ≤ t - f) (k : Nat) : PartedL f (t - sumD L + 1) (legSt F L f t k).2 := by
  refine legs_parted (mayF_rise hC.may) hC.w1 _ _ _ (fun x hx => ((lenF_ok hC.len).1 x (List.mem_of_mem_take hx)).1) ⟨by simp, ?_⟩
  intro r hr
  simp at hr
  subst hr
  dsimp only
  omega
theorem cutsTo_len {F : List Seg} {L : List Leg} {f t : Int} (hC : CheckOk F ⟨f, t⟩ L) (hs : sumD L ≤ t - f) (k : Nat) {x : Leg} (hd : 1 ≤ x.d) (ah : Int) (j : Nat) : (cutsTo F f t x ah (legSt F L f t k).2 j).length ≤ 4097 := by
  have h := cuts_parted hd (ahead := ah) ((lowF F ⟨f, t⟩ x.v).take j) _ (fun b hb => (low_in (mayF_rise hC.may) hC.w1 b (List.mem_of_mem_take hb)).2.1) (legSt_parted hC hs k)
  have h2 := h.length (by omega)
  have h3 := hC.w2
  have h4 := sumD_pos fun x hx => ((lenF_ok hC.len).1 x hx).1
  dsimp only at h3
  unfold cutsTo
  omega
theorem cutsTo_succ {F : List Seg} {f t : Int} {x : Leg} {ah : Int} {out : List Win} {j : Nat} {b : Win} (h : (lowF F ⟨f, t⟩ x.v)[j]? = some b) : cutsTo F f t x ah out (j + 1) = withoutF (cutsTo F f t x ah out j) (badW x ah b) := by
  unfold cutsTo
  rw [take_snoc h, List.foldl_append]
  rfl
theorem legSt_succ {F : List Seg} {L : List Leg} {f t : Int} {k : Nat} {x : Leg} (h : L[k]? = some x) : legSt F L f t (k + 1) = ((legSt F L f t k).1 + x.d, cutsTo F f t x (legSt F L f t k).1 (legSt F L f t k).2 (lowF F ⟨f, t⟩ x.v).length) := by
  unfold legSt cutsTo
  rw [take_snoc h, List.foldl_append, List.take_length]
  rfl
theorem zip1_fold (p : Nat) (u : Value) (t : Array Value) : ((#[p] : Array Tmp).zip #[u]).foldl (fun t (p, v) => t.setIfInBounds p v) t = t.setIfInBounds p u := by
  simp [Array.zip_eq_zipWith]
/-- A round's store. -/
theorem RngInv.next {w W2 : World} {bo bx : Nat} {F : List Seg} {f t : Int} {x : Leg} {ah : Int} {out : List Win} {ds : List Deferred} {S : Nat → Prop} {j : Nat} {W w3 w4 : World} (h : RngInv w W2 bo bx F f t x ah out ds S j W) {T : TypeId} {b : Win}
    (hb : (lowF F ⟨f, t⟩ x.v)[j]? = some b) (hM : Mod (fun b => b = W2.heap.size + 1) (W.alloc (.cells #[.int .i64 b.f, .int .i64 b.t] T)) w3) (hS : ∀ b, S b → W2.heap.size + 2 ≤ b ∧ b < W.heap.size) (h4 : Below w3.heap.size w3 w4) {v4 : Value}
    (ho : OutWins w4 w3.heap.size v4 (withoutF (cutsTo F f t x ah out j) (badW x ah b))) (h1 : w.heap.size < bo) (h2 : bo + 1 < W2.heap.size) (h3 : bx < W2.heap.size) (h5 : bx ≠ bo) :
    RngInv w W2 bo bx F f t x ah out ds S (j + 1) (w4.setCell ⟨bo, 0, none⟩ v4) := by
  have hz := h.z
  have s1 := hM.size
  have s2 := h4.size
  simp only [World.size_alloc] at s1
  have hmA : Mod (fun b => b = W2.heap.size + 1) W w4 := ((Mod.of_bl (bl_alloc bl_refl)).trans hM).trans (Mod.of_bl h4)
  have hm : Mod (fun b => b = bo ∨ b = W2.heap.size + 1) W (w4.setCell ⟨bo, 0, none⟩ v4) := (hmA.wide fun b e => .inr e).setC (.inl rfl)
  obtain ⟨v, v1, v2⟩ := h.o
  refine ⟨lo_set (h.lo.trans (hmA.below h.lo.size (by rintro b rfl; omega))) (by omega), by have := hm.size; omega, h.b.mod hm (by omega), h.a.mod hm (by omega), h.xb.mod hm (by omega), ⟨v4, (v1.mod hmA (by omega)).set 0 _, ?_⟩, h.ds.mod' hm (fun r d hd hr he => ?_)⟩
  · rw [cutsTo_succ hb]
    have := ho.safe (S := fun b => (S b ∨ b = W2.heap.size ∨ b = W2.heap.size + 1) ∨ b = bo ∨ b = bo + 1) fun b hb => by
      rcases hb with (hb | hb | hb) | hb | hb
      · have := hS b hb; omega
      · omega
      · omega
      · omega
      · omega
    exact this.mod (M := fun b => b = bo) (Mod.setC Mod.refl rfl) (fun b _ hn e => hn (.inr (.inl e))) (fun b h => .inl h)
  · obtain ⟨r', g1, g2, g3, g4⟩ := h.ds.m d hd
    rw [g1] at hr
    injection hr with hr
    subst hr
    rcases he with rfl | he
    · exact no_mark g4 v1.one.1
    · omega

/-- Behind a leg. -/
theorem RngInv.leg {w W2 : World} {bo bx : Nat} {F : List Seg} {L : List Leg} {f t : Int} {x : Leg} {ah : Int} {out : List Win} {ds : List Deferred} {S : Nat → Prop} {n k : Nat} {W : World} (h : RngInv w W2 bo bx F f t x ah out ds S n W)
    (hst : legSt F L f t (k + 1) = (ah + x.d, cutsTo F f t x ah out n)) (hD : W.heap[W2.heap.size]? = some (.deferred (some []))) (h1 : w.heap.size < bo) (h2 : bo + 1 < W2.heap.size) :
    BegInv w (W.setCell ⟨bo + 1, 0, none⟩ (.int .i64 (ah + x.d))) bo F L f t (k + 1) ({ target := .collected W2.heap.size, args := #[] } :: ds) := by
  have hz := h.z
  obtain ⟨v, v1, v2⟩ := h.o
  have hm : Mod (fun b => b = bo + 1) W (W.setCell ⟨bo + 1, 0, none⟩ (.int .i64 (ah + x.d))) := Mod.setC Mod.refl rfl
  have hs := hm.size
  refine ⟨lo_set h.lo (by omega), h.b.mod hm (by omega), ?_, ⟨v, v1.mod hm (by omega), ?_⟩, h1, by omega, ?_⟩
  · rw [hst]
    exact h.a.set 0 _
  · rw [hst]
    exact v2.mod (M := fun b => b = bo + 1) hm (fun b _ hn e => hn (.inr (.inr e))) (fun b h => .inl (.inr h))
  · have h3 := (h.ds.cons (ar := #[]) (Nat.le_refl _) (by omega) hD).mod' hm (fun r d hd hr he => ?_)
    · exact h3.mod (M := fun _ => False) Mod.refl (fun _ _ h => h) (by omega)
    · rcases List.mem_cons.1 hd with rfl | hd
      · injection hr with hr
        omega
      · obtain ⟨r', g1, g2, g3, g4⟩ := h.ds.m d hd
        rw [g1] at hr
        injection hr with hr
        subst hr
        subst he
        exact no_mark g4 h.a.one.1

end Go.Proofs.Ytdbogephaddbjaa
