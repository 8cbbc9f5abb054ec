/- slot.without: rows of times without those of a window. -/
import Derived.Test.YtdbogephaddbjaaSlotD
import Derived.Test.YtdbogephaddbjaaPureS
import Derived.ArgAppend
import Derived.Deep.Cut
import Derived.Tactics
import Derived.Tactics2
import Derived.WalkKit
import Derived.LoopTactic
import Derived.WalkLawsBesides
import Derived.WalkSpells
import Derived.Outline
import Derived.Deep.QuietTactic
import Derived.BigQuiet
import Derived.Deep.DeepCutAuto
import Derived.Deep.LoopGhost
import Derived.Deep.RegionHeld3
import Derived.RegionTactic
import Derived.KernelRfl
import Derived.Lib.Hide
set_option linter.unusedVariables false
set_option linter.unusedSimpArgs false
namespace Go.Proofs.Ytdbogephaddbjaa
open Go.RowKit
attribute [local go_sem] Oper.semAt_some

/-! ### A row that may be appended to: of the call's own, or empty and without room -/
def OutRow (w : World) (base : Nat) (e : TypeId) (size : Nat) (v : Value) (n : Nat) (xs : List Value) : Prop := w.ownsRow base e size v n xs ∨ (n = 0 ∧ xs = [] ∧ ∃ A, v = .slice A 0 0)
section
variable {w w' : World} {base : Nat} {e : TypeId} {size : Nat} {v : Value} {n : Nat} {xs : List Value}
theorem OutRow.form (h : OutRow w base e size v n xs) : ∃ A c, v = .slice A n c := by
  rcases h with h | ⟨rfl, _, A, rfl⟩
  · rcases h.2 with ⟨rfl, h0⟩ | ⟨g, cap, cur, rfl, _⟩
    · exact ⟨none, 0, by rw [h0]⟩
    · exact ⟨_, cap, rfl⟩
  · exact ⟨A, 0, rfl⟩
theorem OutRow.mod (h : OutRow w base e size v n xs) {M : Nat → Prop} (hm : Mod M w w') (hn : ∀ k, M k → k < base ∨ w.heap.size ≤ k) : OutRow w' base e size v n xs := by
  rcases h with h | h
  · refine .inl ⟨h.1, h.2.imp id fun ⟨g, cap, cur, hv, hb, hh, r⟩ => ⟨g, cap, cur, hv, hb, hm.heap hh fun hg => ?_, r⟩⟩
    have := hn g hg
    have := (Array.getElem?_eq_some_iff.1 hh).1
    omega
  · exact .inr h
theorem OutRow.bl (h : OutRow w base e size v n xs) (hb : Below w.heap.size w w') : OutRow w' base e size v n xs := h.mod (M := fun _ => False) (Mod.of_bl hb) fun _ h => h.elim
end
theorem append_out {P : Program} {w : World} {ops : Array Oper} {rest : List Oper} {o : Oper} {a : Act} {Q : Exit → Act → World → Prop} (hgd : o.guard = none) (s x : Operand) (t : TypeId)
    (ho : o.op = .call { callee := .builtin .append, args := #[s, x], argTypes := #[t, t] })
    (base : Nat) (e : TypeId) (i : TypeInfo) (z : Value) (size bytes : Nat) (ht : P.underlying t = some (.slice e)) (hi : P.info? e = some i) (hz : i.zero = some z)
    (hsize : i.size = size) (hby : i.bytes = bytes) (hzs : z.cells.size = size) (hsz : 0 < size)
    (v : Value) (n : Nat) (xs : List Value) (hs : a.eval s = v) (hown : OutRow w base e size v n xs)
    (ad : Addr) (m c : Nat) (news : List Value) (hx : a.eval x = .slice (some ad) m c) (hl : news.length = m * size) (hnews : ∀ j u, news[j]? = some u → w.cell? (ad.add j) = some u) (h1 : ∀ u ∈ news, u.oneCell' = true)
    (hm : 0 < m) (h63 : n + m ≤ maxLen) (hbytes : (n + m) * bytes ≤ 140737488355328) (hbase : base ≤ w.heap.size)
    (h : ∀ v' w', w'.ownsRow base e size v' (n + m) (xs ++ news) → Mod (fun k => base ≤ k) w w' → wpList P ops Q rest (a.put o.dst v') w') : wpList P ops Q (o :: rest) a w := by
  rcases hown with hown | ⟨rfl, rfl, A, rfl⟩
  · refine wpList_plain hgd fun _ hK => wp_append_own w s x t ho base e i z size bytes ht hi hz hsize hby hzs hsz v n xs hs hown ad m c news hx hl hnews h1 h63 hbytes hbase ?_
    intro v' w' h2 h3 _
    exact hK _ _ (h v' w' h2 ((Mod.of_grown h3).wide fun k hk => (hown.lt k hk.symm).1))
  · refine wpList_append_grows w hgd s x t ho e i z size bytes ht hi hz hsize hby hzs hsz A 0 0 [] hs (fun _ => ⟨rfl, rfl⟩) (by simp) (fun b _ j u hu => by simp at hu) ad m c news hx hl hnews h1 (by omega) h63 hbytes ?_
    intro v' w' h2 h3
    refine h v' w' ?_ ((Mod.of_grown h3).wide fun k hk => by cases hk)
    exact ⟨h2.1, h2.2.imp id fun ⟨g, cap, cur, hv, hb, r⟩ => ⟨g, cap, cur, hv, by omega, r⟩⟩

theorem win_len (x : Win) : x.cells.length = 2 := rfl
abbrev OwnWins (w : World) (base : Nat) (v : Value) (L : List Win) : Prop := w.ownsRow base 24 2 v L.length (flat Win.cells L)
abbrev OutWins (w : World) (base : Nat) (v : Value) (L : List Win) : Prop := OutRow w base 24 2 v L.length (flat Win.cells L)
theorem info_win : (Try.prog.info? 24).map (fun i => (i.zero, i.size, i.bytes)) = some (some (.agg #[.int .i64 0, .int .i64 0]), 2, 16) := by kernel_rfl
theorem wins_one (L : List Win) : ∀ u ∈ flat Win.cells L, u.oneCell' = true := by
  intro u hu
  simp only [flat, List.mem_flatten, List.mem_map] at hu
  obtain ⟨l, ⟨x, _, rfl⟩, hu⟩ := hu
  simp only [Win.cells, List.mem_cons, List.not_mem_nil, or_false] at hu
  rcases hu with rfl | rfl <;> rfl
/-- Rows of the call's own, of any structs of k cells, read. -/
theorem ownsRow_rows {α : Type} {k : Nat} {cells : α → List Value} (hk : ∀ x, (cells x).length = k) {w : World} {base : Nat} {e : TypeId} {L : List α} {A : Option Addr} {cap : Nat} (h : w.ownsRow base e k (.slice A L.length cap) L.length (flat cells L)) : Rows k cells w w.heap.size A L := fun hL => by
  have hl : 0 < L.length := List.length_pos_iff.2 hL
  rcases h.2 with ⟨e, h0⟩ | ⟨g, cap', cur, e, hb, hh, _⟩
  · omega
  · injection e with e1 _ e3
    subst e1 e3
    refine ⟨g, 0, rfl, (Array.getElem?_eq_some_iff.1 hh).1, fun i x hx j u hu => ?_⟩
    have hi : i < L.length := (List.getElem?_eq_some_iff.1 hx).1
    have hj : j < k := by rw [← hk x]; exact (List.getElem?_eq_some_iff.1 hu).1
    have hlt : i * k + j < L.length * k := by
      have := Nat.mul_le_mul_right k (show i + 1 ≤ L.length by omega)
      rw [Nat.add_mul] at this
      omega
    rw [Nat.zero_add, h.cellAt (i * k + j) hlt]
    exact flat_get hk L i x hx j u hu
theorem OutWins.rows {w : World} {base : Nat} {L : List Win} {A : Option Addr} {cap : Nat} (h : OutWins w base (.slice A L.length cap) L) : Wins w w.heap.size A L := by
  rcases h with h | ⟨h0, _⟩
  · exact ownsRow_rows win_len h
  · rw [List.eq_nil_of_length_eq_zero h0]; exact Rows.nil

def partF (w x : Win) (j : Nat) : Win := if j = 0 then ⟨w.f, min w.t x.f⟩ else ⟨max w.f x.t, w.t⟩
def keepW (p : Win) : List Win := if p.f < p.t then [p] else []
theorem cutW_eq (w x : Win) : cutW w x = keepW (partF w x 0) ++ keepW (partF w x 1) := by
  unfold cutW keepW partF
  simp only [↓reduceIte, Nat.succ_ne_self]
theorem withoutF_snoc (L : List Win) (w x : Win) : withoutF (L ++ [w]) x = withoutF L x ++ (keepW (partF w x 0) ++ keepW (partF w x 1)) := by
  rw [← cutW_eq]
  simp [withoutF]
theorem cut0 (A : Option Addr) (n c : Nat) (h : n ≤ c) : ∃ A', ∀ w, (Instr.slice 31 (.slice A n c) none (some (.int .i64 0)) (some (.int .i64 0))).run Try.prog w = .ok (.slice A' 0 0) w := by
  obtain ⟨i0, hi, hz0, hz1, hz2⟩ := info_parts info_win
  refine ⟨A, fun w => ?_⟩
  simp [Instr.slice, Instr.sliceBounds, Instr.sliceBound, asIntOf, run_underlying Try.underlying31, sizeOf, typeInfo, hi, hz1, go_sem]

/-- What without keeps in its loops. -/
structure WoInv (w W : World) (bx : Nat) (v : Value) (A : Option Addr) (L : List Win) (x : Win) (out : List Win) : Prop where
  lo : Below w.heap.size w W
  x : Bx W bx [.int .i64 x.f, .int .i64 x.t]
  o : OutWins W (w.heap.size + 1) v out
  z : w.heap.size + 1 ≤ W.heap.size

theorem WoInv.alloc {w W : World} {bx : Nat} {v : Value} {A : Option Addr} {L : List Win} {x : Win} {out : List Win} (h : WoInv w W bx v A L x out) (o : Obj) : WoInv w (W.alloc o) bx v A L x out :=
  ⟨h.lo.alloc h.lo.size o, h.x.alloc o, h.o.bl (bl_alloc bl_refl), by have := h.z; simp; omega⟩
theorem OutRow.mono {w : World} {base b' : Nat} {e : TypeId} {size : Nat} {v : Value} {n : Nat} {xs : List Value} (h : OutRow w base e size v n xs) (hb : b' ≤ base) : OutRow w b' e size v n xs :=
  h.imp (fun h => ⟨h.1, h.2.imp id fun ⟨g, cap, cur, hv, hbb, r⟩ => ⟨g, cap, cur, hv, by omega, r⟩⟩) id
theorem WoInv.app {w W W' : World} {v v' : Value} {A : Option Addr} {L : List Win} {x q : Win} {out : List Win} (h : WoInv w W w.heap.size v A L x out)
    (ho : W'.ownsRow (w.heap.size + 1) 24 2 v' (out.length + 1) (flat Win.cells out ++ q.cells)) (hM : Mod (fun k => w.heap.size + 1 ≤ k) W W') : WoInv w W' w.heap.size v' A L x (out ++ [q]) :=
  ⟨h.lo.trans (hM.below h.lo.size fun k hk => by omega), h.x.mod hM (by omega), .inl (by rw [flat_snoc, List.length_append]; exact ho), by have := h.z; have := hM.size; omega⟩
theorem agg4 {a b c d a' b' c' d' : Int} (h1 : a = a') (h2 : b = b') (h3 : c = c') (h4 : d = d') : Value.agg #[.int .i64 a, .int .i64 b, .int .i64 c, .int .i64 d] = Value.agg #[.int .i64 a', .int .i64 b', .int .i64 c', .int .i64 d'] := by
  subst h1 h2 h3 h4; rfl
def partsF (w x : Win) : Nat → List Win
  | 0 => []
  | j + 1 => partsF w x j ++ keepW (partF w x j)
theorem partsF_succ (w x : Win) {j : Nat} (h : j < 2) : partsF w x (j + 1) = partsF w x j ++ keepW (partF w x j) := rfl
theorem partsF_len (w x : Win) : ∀ j, (partsF w x j).length ≤ j
  | 0 => by simp [partsF]
  | j + 1 => by
    have := partsF_len w x j
    show (_ ++ keepW _).length ≤ _
    rw [List.length_append]
    unfold keepW
    split <;> simp <;> omega

set_option maxRecDepth 100000 in
set_option maxHeartbeats 4000000 in
theorem slot_without (A : Option Addr) (L : List Win) (c : Nat) (x : Win) (w : World) (hn : L.length ≤ 100000) (hc : L.length ≤ c) (hr : Wins w w.heap.size A L) :
    Calls Try.prog 29 #[.slice A L.length c, .agg #[.int .i64 x.f, .int .i64 x.t]] w fun e w' => (∃ v, e = .returned v ∧ OutWins w' w.heap.size v (withoutF L x)) ∧ Below w.heap.size w w' := by
  obtain ⟨A0, hsl⟩ := cut0 A L.length c hc
  obtain ⟨i0, hi, hz0, hz1, hz2⟩ := info_parts info_win
  go_enter Try.func29, Try.ntmps29
  go_wp2
  go_loopw [5, 14] (fun s5 s14 W => ∃ k : Nat, k ≤ L.length ∧ s14 = .int .i64 k ∧ WoInv w W w.heap.size s5 A L x (withoutF (L.take k) x)) (fun _ s14 _ => L.length - (intOf s14).toNat)
  case atStart => exact ⟨0, Nat.zero_le _, rfl, by (repeat (first | exact bl_refl | assumption | apply bl_alloc | apply bl_drew | apply bl_drewN | (apply bl_set; (case hp => first | (simp; done) | (simp; omega))) | (apply bl_trans2; (case k => assumption)))), Bx.new w [.int .i64 x.f, .int .i64 x.t] _, .inr ⟨rfl, rfl, A0, rfl⟩, by simp⟩
  case round =>
    obtain ⟨k, hk, rfl, hI⟩ := hrel
    by_cases hlt : k < L.length
    · have hx : L[k]? = some L[k] := List.getElem?_eq_getElem hlt
      obtain ⟨rb, ro, rfl, hrb, x0, x1⟩ := (hr.below hI.lo).win hx
      obtain ⟨y, hye⟩ : ∃ y, L[k] = y := ⟨_, rfl⟩
      rw [hye] at hx x0 x1
      clear hye
      obtain ⟨b1, b2, b3, b4, b5⟩ := hI.x.two
      have r1 : rb < wr.heap.size := by have := hI.z; omega
      have HI := Lib.hid (And.intro hI (And.intro hx hr))
      clear hI hx hr hsl
      go_upto_region 5 with fail
      go_cut [7, 34, 35, 49] from 18 (fun s7 s34 s35 s49 wc => s49 = undef ∧ s7 = .pointer (some ⟨wr.heap.size, 0, none⟩) ∧ s34 = .agg #[.int .i64 (partF y x 0).f, .int .i64 (partF y x 0).t, .int .i64 (partF y x 1).f, .int .i64 (partF y x 1).t] ∧ s35 = .int .i64 0 ∧ wc = wr.alloc (.cells #[.int .i64 y.f, .int .i64 y.t] 24))
      case first =>
        go_wp2
        all_goals
          go_meet
          case rel => exact ⟨rfl, rfl, agg4 rfl (by show _ = min y.t x.f; omega) (by show _ = max y.f x.t; omega) rfl, rfl, rfl⟩
      case rest =>
        obtain ⟨rfl, rfl, rfl, rfl, rfl⟩ := hcut
        clear b1 b2 b3 b4
        have w0 : WoInv w (wr.alloc (.cells #[.int .i64 y.f, .int .i64 y.t] 24)) w.heap.size u5 (some ⟨rb, ro, none⟩) L x (withoutF (L.take k) x) := HI.out.1.alloc _
        have hlen : (withoutF (L.take k) x).length ≤ 2 * k := by have := without_len (L.take k) x; rw [List.length_take] at this; omega
        have H0 := Lib.hid (And.intro w0 hlen)
        clear w0 hlen
        go_wp2
        go_loopw [5, 35] (fun s5 s35 W => ∃ j : Nat, j ≤ 2 ∧ s35 = .int .i64 j ∧ WoInv w W w.heap.size s5 (some ⟨rb, ro, none⟩) L x (withoutF (L.take k) x ++ partsF y x j)) (fun _ s35 _ => 2 - (intOf s35).toNat)
        case atStart => exact ⟨0, by omega, rfl, by simpa [partsF] using H0.out.1⟩
        case round =>
          obtain ⟨j, hj, rfl, hW⟩ := hrel
          by_cases hj2 : j < 2
          · obtain ⟨q, hq⟩ : ∃ q, partF y x j = q := ⟨_, rfl⟩
            have hix : ∀ w, (Instr.index 100 (.agg #[.int .i64 (partF y x 0).f, .int .i64 (partF y x 0).t, .int .i64 (partF y x 1).f, .int .i64 (partF y x 1).t]) (.int .i64 j)).run Try.prog w = .ok (.agg #[.int .i64 q.f, .int .i64 q.t]) w := fun w => by
              rw [← hq]
              obtain rfl | rfl : j = 0 ∨ j = 1 := by omega
              · kernel_rfl
              · kernel_rfl
            obtain ⟨A5, c5, rfl⟩ := hW.o.form
            have hps := partsF_succ y x hj2
            rw [hq] at hps
            have HW := Lib.hid (And.intro hW hps)
            clear hW hps hq
            by_cases hp : q.f < q.t
            · go_wp2_with (at_builtin; go_loud (refine append_out rfl _ _ 31 rfl (w.heap.size + 1) 24 i0 _ 2 16 Try.underlying31 hi hz0 hz1 hz2 rfl (by decide) _ _ _ rfl ((HW.out.1.o.bl (bl_alloc (bl_alloc bl_refl)))) ⟨_ + 1, 0, none⟩ 1 1 q.cells rfl rfl ?c1 ?c2 (by decide) ?c3 ?c4 ?c5 ?_))
              case c1 =>
                intro j u hu
                rw [add_off]
                have hx := Bx.new (wr.alloc (.cells #[.int .i64 q.f, .int .i64 q.t] 24)) [.int .i64 q.f, .int .i64 q.t] 24
                rw [World.size_alloc] at hx
                rw [Nat.zero_add]
                exact hx.cell j hu
              case c2 => exact fun u hu => wins_one [q] u (by simpa [flat] using hu)
              case c3 => have := H0.out.2; have := partsF_len y x j; rw [List.length_append]; unfold maxLen; omega
              case c4 => have := H0.out.2; have := partsF_len y x j; rw [List.length_append]; omega
              case c5 => have := HW.out.1.z; simp; omega
              intro v' w1 hown' hM
              have H5 := Lib.hid (And.intro hown' hM)
              clear hown' hM hi hz0 hz1 hz2
              go_wp2
              go_roundw
              case rel =>
                have hk : keepW q = [q] := by unfold keepW; rw [if_pos hp]
                refine ⟨j + 1, by omega, by go_num, ?_⟩
                rw [HW.out.2, hk, ← List.append_assoc]
                exact (HW.out.1.alloc _ |>.alloc _).app (by rw [List.length_append]; exact H5.out.1) H5.out.2
              case measure => simp [intOf]; omega
            · go_wp2
              go_roundw
              case rel =>
                have hk : keepW q = [] := by unfold keepW; rw [if_neg (by omega)]
                refine ⟨j + 1, by omega, by go_num, ?_⟩
                rw [HW.out.2, hk, List.append_nil]
                exact HW.out.1.alloc _
              case measure => simp [intOf]; omega
          · obtain rfl : j = 2 := by omega
            have HW := Lib.hid hW
            clear hW
            go_wp2
            go_roundw
            case rel =>
              refine ⟨k + 1, by omega, by go_num, ?_⟩
              rw [take_snoc HI.out.2.1, withoutF_snoc]
              exact HW.out
            case measure => simp [intOf]; omega
    · obtain rfl : k = L.length := by omega
      rw [List.take_length] at hI
      obtain ⟨A5, c5, rfl⟩ := hI.o.form
      have HI := Lib.hid hI
      clear hI hr
      go_wp2
      go_ret
      exact ⟨⟨_, rfl, HI.out.o.mono (by omega)⟩, HI.out.lo⟩

end Go.Proofs.Ytdbogephaddbjaa
