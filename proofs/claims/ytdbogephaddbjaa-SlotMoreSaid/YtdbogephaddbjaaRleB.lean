/- Contracts of rle.At and what it calls: slices.IsSortedFunc at runs, rises, slow. -/
import Derived.Test.YtdbogephaddbjaaRleA
import Derived.ScopeJumps
import Derived.Tactics
import Derived.Tactics2
import Derived.WalkKit
import Derived.LoopTactic
import Derived.WalkLawsBesides
import Derived.WalkSpells
import Derived.Outline
import Derived.Deep.QuietTactic
import Derived.BigQuiet
import Derived.Deep.DeepCutAuto
import Derived.Deep.LoopGhost
import Derived.Deep.RegionHeld3
import Derived.RegionTactic
import Derived.KernelRfl
import Derived.Lib.Hide
set_option linter.unusedVariables false
set_option linter.unusedSimpArgs false
namespace Go.Proofs.Ytdbogephaddbjaa
open Go.RowKit

/-- The order of two runs, as the program tells it. -/
def cmpAt (x y : Seg) : Int := if x.at_ < y.at_ then -1 else if y.at_ < x.at_ then 1 else 0

set_option maxHeartbeats 1000000 in
theorem rle_compare (v : Value) (t m c t' m' c' : Int) (w : World) :
    Calls Try.prog 99 #[v, .agg #[.int .i64 t, .int .i64 m, .int .i64 c], .agg #[.int .i64 t', .int .i64 m', .int .i64 c']] w fun e w' => e = .returned (.int .i64 (cmpAt ⟨t, ⟨m, c⟩⟩ ⟨t', ⟨m', c'⟩⟩)) ∧ Below w.heap.size w w' := by
  by_cases h1 : t < t'
  · have hc : cmpAt ⟨t, ⟨m, c⟩⟩ ⟨t', ⟨m', c'⟩⟩ = -1 := by simp [cmpAt, h1]
    rw [hc]; clear hc
    go_enter Try.func99, Try.ntmps99
    go_wp2
    go_ret
    exact ⟨rfl, by (repeat (first | exact bl_refl | assumption | apply bl_alloc | apply bl_drew | apply bl_drewN | (apply bl_set; (case hp => first | (simp; done) | (simp; omega))) | (apply bl_trans2; (case k => assumption))))⟩
  · by_cases h2 : t' < t
    · have hc : cmpAt ⟨t, ⟨m, c⟩⟩ ⟨t', ⟨m', c'⟩⟩ = 1 := by simp [cmpAt, h1, h2]
      rw [hc]; clear hc
      go_enter Try.func99, Try.ntmps99
      go_wp2
      go_ret
      exact ⟨rfl, by (repeat (first | exact bl_refl | assumption | apply bl_alloc | apply bl_drew | apply bl_drewN | (apply bl_set; (case hp => first | (simp; done) | (simp; omega))) | (apply bl_trans2; (case k => assumption))))⟩
    · have hc : cmpAt ⟨t, ⟨m, c⟩⟩ ⟨t', ⟨m', c'⟩⟩ = 0 := by simp [cmpAt, h1, h2]
      rw [hc]; clear hc
      go_enter Try.func99, Try.ntmps99
      go_wp2
      go_ret
      exact ⟨rfl, by (repeat (first | exact bl_refl | assumption | apply bl_alloc | apply bl_drew | apply bl_drewN | (apply bl_set; (case hp => first | (simp; done) | (simp; omega))) | (apply bl_trans2; (case k => assumption))))⟩
theorem rle_compare_in : Enters Try.prog 99 := fun _ _ => by kernel_rfl

/-- Do runs rise, each being no less than the one before? -/
def risesF (L : List Seg) : Bool := (List.range (L.length - 1)).all fun i => decide ((L.getD i seg0).at_ ≤ (L.getD (i + 1) seg0).at_)

set_option maxRecDepth 10000 in
set_option maxHeartbeats 1000000 in
/-- slices.IsSortedFunc over runs, by their times. -/
theorem isSorted_seg (A : Option Addr) (L : List Seg) (cap g : Nat) (fst : Array Value) (w : World) (hn : L.length ≤ 1000000)
    (hg : Enters Try.prog g) (hr : Segs w w.heap.size A L)
    (hs : ∀ (x y : Seg) W, Calls Try.prog g (fst ++ #[.agg #[.int .i64 x.at_, .int .i64 x.v.m, .int .i64 x.v.c], .agg #[.int .i64 y.at_, .int .i64 y.v.m, .int .i64 y.v.c]]) W fun e W' => e = .returned (.int .i64 (cmpAt x y)) ∧ Below W.heap.size W W') :
    Calls Try.prog 98 #[.slice A L.length cap, .func (.func g) fst #[]] w fun e w' => e = .returned (.bool (risesF L)) ∧ Below w.heap.size w w' := by
  unfold Enters at hg
  go_enter Try.func98, Try.ntmps98
  go_wp2
  go_loopw [5] (fun i W => ∃ z : Int, -1 ≤ z ∧ z ≤ L.length - 1 ∧ i = .int .i64 z ∧ Below w.heap.size w W ∧ ∀ j : Nat, z ≤ j → j < L.length - 1 → (L.getD j seg0).at_ ≤ (L.getD (j + 1) seg0).at_) (fun i _ => (intOf i + 1).toNat)
  case atStart => exact ⟨L.length - 1, by omega, by omega, rfl, by (repeat (first | exact bl_refl | assumption | apply bl_alloc | apply bl_drew | apply bl_drewN | (apply bl_set; (case hp => first | (simp; done) | (simp; omega))) | (apply bl_trans2; (case k => assumption)))), fun j h1 h2 => by omega⟩
  case round =>
    obtain ⟨z, hz0, hz1, rfl, hb, hall⟩ := hrel
    have Hall := Lib.hid hall
    clear hall
    by_cases hpos : 0 < z
    · obtain ⟨k, rfl⟩ : ∃ k : Nat, z = (k : Int) + 1 := ⟨(z - 1).toNat, by omega⟩
      have hk1 : k + 1 < L.length := by omega
      have hx : L[k + 1]? = some L[k + 1] := List.getElem?_eq_getElem hk1
      have hy : L[k]? = some L[k] := List.getElem?_eq_getElem (by omega)
      have hxe : L.getD (k + 1) seg0 = L[k + 1] := by rw [List.getD_eq_getElem?_getD, hx]; rfl
      have hye : L.getD k seg0 = L[k] := by rw [List.getD_eq_getElem?_getD, hy]; rfl
      have hrw := hr.below hb
      obtain ⟨b, off, rfl, hbl, hx0, hx1, hx2⟩ := hrw.seg hx
      obtain ⟨b', off', he, -, hy0, hy1, hy2⟩ := hrw.seg hy
      simp only [Option.some.injEq, Addr.mk.injEq] at he
      obtain ⟨rfl, rfl, -⟩ := he
      generalize L[k + 1] = x at *
      generalize L[k] = y at *
      have Hxe := Lib.hid hxe
      have Hye := Lib.hid hye
      clear hx hy hxe hye hr hrw hz0 hpos
      have e1 : IntKind.i64.wrap (((k : Int) + 1) - 1) = k := by rw [IntWalk.i64_in _ (by omega)]; omega
      have e1' : IntKind.i64.wrap (k : Int) = k := IntWalk.i64_in _ (by omega)
      have e6 : (0 : Int) ≤ (k : Int) := by omega
      have e2 : ((k : Int) + 1).toNat = k + 1 := by omega
      have e3 : (0 : Int) ≤ (k : Int) + 1 := by omega
      have e4 : ((k : Int) + 1) < L.length := by omega
      have e5 : ((k : Int)) < L.length := by omega
      clear hz1 hk1
      go_wp2
      go_region_held3 (fun W => W.cell? ⟨b, off + (k + 1) * 3, none⟩ = some (.int .i64 x.at_) ∧ W.cell? ⟨b, off + (k + 1) * 3 + 1, none⟩ = some (.int .i64 x.v.m) ∧ W.cell? ⟨b, off + (k + 1) * 3 + 2, none⟩ = some (.int .i64 x.v.c) ∧ W.cell? ⟨b, off + k * 3, none⟩ = some (.int .i64 y.at_) ∧ W.cell? ⟨b, off + k * 3 + 1, none⟩ = some (.int .i64 y.v.m) ∧ W.cell? ⟨b, off + k * 3 + 2, none⟩ = some (.int .i64 y.v.c) ∧ Below w.heap.size w W) ((refine ⟨?_, ?_, ?_, ?_, ?_, ?_, ?_⟩ <;> (first | assumption | (apply bl_drew; assumption) | (exact bl_cell ‹_› ‹_›) | (apply bl_trans2; (case k => assumption); (first | assumption | (apply bl_drew; assumption))))))
        (first | ((refine (hs _ _ _).mono ?_); rintro e w1 ⟨rfl, hb1⟩))
      have hcm : cmpAt x y < 0 ↔ x.at_ < y.at_ := by unfold cmpAt; split <;> (try split) <;> omega
      have hB : Below w.heap.size w w1 := bl_trans (bl_drew hb) hb1
      by_cases hlt : x.at_ < y.at_
      · have hd : cmpAt x y < 0 := hcm.2 hlt
        clear hcm
        go_wp2
        go_ret
        refine ⟨ret_bool ?_, hB⟩
        have : risesF L = false := by
          unfold risesF
          rw [List.all_eq_false]
          exact ⟨k, by simp; omega, by rw [Hxe.out, Hye.out]; simp; omega⟩
        rw [this]
      · have hd : 0 ≤ cmpAt x y := by omega
        clear hcm
        go_wp2
        go_roundw
        case rel =>
          refine ⟨k, by omega, by omega, rfl, hB, fun j hj1 hj2 => ?_⟩
          by_cases e : j = k
          · subst e; rw [Hxe.out, Hye.out]; omega
          · exact Hall.out j (by omega) hj2
        case measure => simp [intOf]; omega
    · go_wp2
      go_ret
      refine ⟨ret_bool ?_, hb⟩
      have : risesF L = true := by
        unfold risesF
        rw [List.all_eq_true]
        intro j hj
        have hj' : j < L.length - 1 := by simpa using hj
        exact decide_eq_true (Hall.out j (by omega) hj')
      rw [this]

set_option maxHeartbeats 400000 in
theorem rle_rises (A : Option Addr) (L : List Seg) (cap : Nat) (w : World) (hn : L.length ≤ 1000000) (hr : Segs w w.heap.size A L) :
    Calls Try.prog 77 #[.slice A L.length cap] w fun e w' => e = .returned (.bool (risesF L)) ∧ Below w.heap.size w w' := by
  have hs := isSorted_seg A L cap 99 #[.slice A L.length cap] w hn rle_compare_in hr (fun x y W => rle_compare _ _ _ _ _ _ _ W)
  go_enter Try.func77, Try.ntmps77
  go_wp2_with (go_at_call 98; refine hs.mono ?_; clear hs; rintro e w1 ⟨rfl, hb1⟩)
  go_ret
  exact ⟨rfl, hb1⟩

def Vec.box (v : Vec) : List Value := [.int .i64 v.m, .int .i64 v.c]
/-- The value at a time: that of the last run that begins no later. -/
def atF (L : List Seg) (t : Int) : Vec := L.foldl (fun v x => if x.at_ ≤ t then x.v else v) ⟨0, 0⟩
theorem atF_snoc (L : List Seg) (x : Seg) (t : Int) : atF (L ++ [x]) t = if x.at_ ≤ t then x.v else atF L t := by simp [atF]
theorem take_snoc {α : Type} {L : List α} {k : Nat} {x : α} (h : L[k]? = some x) : L.take (k + 1) = L.take k ++ [x] := by
  rw [List.take_add_one, h]; rfl

set_option maxHeartbeats 1000000 in
theorem rle_slow (A : Option Addr) (L : List Seg) (cap : Nat) (t : Int) (w : World) (hn : L.length ≤ 1000000) (hr : Segs w w.heap.size A L) :
    Calls Try.prog 78 #[.slice A L.length cap, .int .i64 t] w fun e w' => e = .returned (.agg #[.int .i64 (atF L t).m, .int .i64 (atF L t).c]) ∧ Below w.heap.size w w' := by
  go_enter Try.func78, Try.ntmps78
  go_wp2
  go_loopw [7, 10] (fun _ i W => ∃ k : Nat, k ≤ L.length ∧ i = .int .i64 k ∧ Below w.heap.size w W ∧ Bx W w.heap.size (Vec.box ⟨0, 0⟩) ∧ Bx W (w.heap.size + 1) (Vec.box (atF (L.take k) t))) (fun _ i _ => L.length - (intOf i).toNat)
  case atStart =>
    refine ⟨0, Nat.zero_le _, rfl, by (repeat (first | exact bl_refl | assumption | apply bl_alloc | apply bl_drew | apply bl_drewN | (apply bl_set; (case hp => first | (simp; done) | (simp; omega))) | (apply bl_trans2; (case k => assumption)))), (Bx.new w [.int .i64 0, .int .i64 0] _).alloc _, ?_⟩
    have := Bx.new (w.alloc (.cells #[.int .i64 0, .int .i64 0] 51)) [.int .i64 0, .int .i64 0] 51
    rw [World.size_alloc] at this
    exact this
  case round =>
    obtain ⟨k, hk, rfl, hb, hb0, hb1⟩ := hrel
    have l0 := hb0.lt
    have l1 := hb1.lt
    obtain ⟨g1, g2, g3, g4, _⟩ := hb0.two
    obtain ⟨k1, k2, k3, k4, _⟩ := hb1.two
    have HB := Lib.hid (And.intro hb0 hb1)
    clear hb0 hb1
    by_cases hlt : k < L.length
    · have hx : L[k]? = some L[k] := List.getElem?_eq_getElem hlt
      obtain ⟨b, off, rfl, hbl, hc0, hc1, hc2⟩ := (hr.below hb).seg hx
      generalize L[k] = x at *
      have hsn := atF_snoc (L.take k) x t
      rw [← take_snoc hx] at hsn
      have Hsn := Lib.hid hsn
      clear hsn hx hr
      by_cases hle : x.at_ ≤ t
      · go_wp2
        go_roundw
        case rel =>
          refine ⟨k + 1, by omega, by go_num, by (repeat (first | exact bl_refl | assumption | apply bl_alloc | apply bl_drew | apply bl_drewN | (apply bl_set; (case hp => first | (simp; done) | (simp; omega))) | (apply bl_trans2; (case k => assumption)))), ((HB.out.1.far (by simp) _).far (by simp) _).alloc _, ?_⟩
          rw [Hsn.out, if_pos hle]
          exact ((HB.out.2.set 0 _).set 1 _).alloc _
        case measure => simp [intOf]; omega
      · go_wp2
        go_roundw
        case rel =>
          refine ⟨k + 1, by omega, by go_num, by (repeat (first | exact bl_refl | assumption | apply bl_alloc | apply bl_drew | apply bl_drewN | (apply bl_set; (case hp => first | (simp; done) | (simp; omega))) | (apply bl_trans2; (case k => assumption)))), HB.out.1.alloc _, ?_⟩
          rw [Hsn.out, if_neg hle]
          exact HB.out.2.alloc _
        case measure => simp [intOf]; omega
    · obtain rfl : k = L.length := by omega
      rw [List.take_length] at k1 k2 HB
      clear hr
      go_wp2
      exact bodyPost_ret (v := .agg #[.int .i64 (atF L t).m, .int .i64 (atF L t).c]) (by simp [results, Try.results78, go_sem, g1, g2, g3, g4]) rfl ⟨rfl, by (repeat (first | exact bl_refl | assumption | apply bl_alloc | apply bl_drew | apply bl_drewN | (apply bl_set; (case hp => first | (simp; done) | (simp; omega))) | (apply bl_trans2; (case k => assumption))))⟩

theorem rises_mono {L : List Seg} (h : risesF L = true) (i j : Nat) (hij : i ≤ j) (hj : j < L.length) : (L.getD i seg0).at_ ≤ (L.getD j seg0).at_ := by
  induction j with
  | zero =>
    have : i = 0 := by omega
    subst this
    exact Int.le_refl _
  | succ j ih =>
    rcases Nat.lt_or_ge j i with h1 | h1
    · obtain rfl : i = j + 1 := by omega
      exact Int.le_refl _
    · have h2 := ih h1 (by omega)
      unfold risesF at h
      rw [List.all_eq_true] at h
      have h3 := of_decide_eq_true (h j (by simp; omega))
      omega
theorem atF_split (t : Int) (L : List Seg) (lo : Nat) (hl : lo ≤ L.length) (h1 : ∀ i, i < lo → (L.getD i seg0).at_ ≤ t) (h2 : ∀ i, lo ≤ i → i < L.length → t < (L.getD i seg0).at_) :
    atF L t = if lo = 0 then ⟨0, 0⟩ else (L.getD (lo - 1) seg0).v := by
  have key : ∀ n, lo + n ≤ L.length → atF (L.take (lo + n)) t = if lo = 0 then ⟨0, 0⟩ else (L.getD (lo - 1) seg0).v := by
    intro n
    induction n with
    | zero =>
      intro _
      rcases Nat.eq_zero_or_pos lo with h | h
      · subst h; simp [atF]
      · obtain ⟨j, rfl⟩ : ∃ j, lo = j + 1 := ⟨lo - 1, by omega⟩
        have hx : L[j]? = some L[j] := List.getElem?_eq_getElem (by omega)
        have hxe : L.getD j seg0 = L[j] := by rw [List.getD_eq_getElem?_getD, hx]; rfl
        have := h1 j (by omega)
        rw [hxe] at this
        rw [Nat.add_zero, take_snoc hx, atF_snoc, if_pos this, if_neg (by omega)]
        simp only [Nat.add_sub_cancel]
        rw [hxe]
    | succ n ih =>
      intro hn
      have hx : L[lo + n]? = some L[lo + n] := List.getElem?_eq_getElem (by omega)
      have hxe : L.getD (lo + n) seg0 = L[lo + n] := by rw [List.getD_eq_getElem?_getD, hx]; rfl
      have := h2 (lo + n) (by omega) (by omega)
      rw [hxe] at this
      rw [← Nat.add_assoc, take_snoc hx, atF_snoc, if_neg (by omega)]
      exact ih (by omega)
  have := key (L.length - lo) (by omega)
  rw [show lo + (L.length - lo) = L.length by omega, List.take_length] at this
  exact this

set_option maxHeartbeats 2000000 in
theorem rle_at (A : Option Addr) (L : List Seg) (cap : Nat) (t : Int) (w : World) (hn : L.length ≤ 1000000) (hr : Segs w w.heap.size A L) :
    Calls Try.prog 55 #[.slice A L.length cap, .int .i64 t] w fun e w' => e = .returned (.agg #[.int .i64 (atF L t).m, .int .i64 (atF L t).c]) ∧ Below w.heap.size w w' := by
  have hB00 := Bx.new w [.int .i64 0, .int .i64 0] 51
  cases hs : risesF L with
  | false =>
    go_enter Try.func55, Try.ntmps55
    go_wp2_with fail
    refine wp_scope_jumps 0 (fun _ _ => False) (fun _ _ => 0) rfl ?_ (fun _ _ h => h.elim)
    go_wp2_with (first
      | (go_at_call 77; refine (rle_rises A L cap _ hn (hr.bl (by (repeat (first | exact bl_refl | assumption | apply bl_alloc | apply bl_drew | apply bl_drewN | (apply bl_set; (case hp => first | (simp; done) | (simp; omega))) | (apply bl_trans2; (case k => assumption))))))).mono ?_; rintro e w1 ⟨rfl, hb1⟩)
      | (go_at_call 78; refine (rle_slow A L cap t _ hn (hr.bl (by (repeat (first | exact bl_refl | assumption | apply bl_alloc | apply bl_drew | apply bl_drewN | (apply bl_set; (case hp => first | (simp; done) | (simp; omega))) | (apply bl_trans2; (case k => assumption))))))).mono ?_; rintro e w2 ⟨rfl, hb2⟩; obtain ⟨g1, g2, g3, g4, g5⟩ := ((hB00.bl hb1).bl hb2).two))
    simp only [Exit.jump]
    exact bodyPost_ret (v := .agg #[.int .i64 (atF L t).m, .int .i64 (atF L t).c]) (by simp [results, Try.results55, go_sem, g1, g2, g3, g4]) rfl ⟨rfl, by (repeat (first | exact bl_refl | assumption | apply bl_alloc | apply bl_drew | apply bl_drewN | (apply bl_set; (case hp => first | (simp; done) | (simp; omega))) | (apply bl_trans2; (case k => assumption))))⟩
  | true =>
  go_enter Try.func55, Try.ntmps55
  go_wp2_with fail
  refine wp_scope_jumps 0 (fun a' W => ∃ lo hi : Nat, lo ≤ hi ∧ hi ≤ L.length ∧ (∀ i, i < lo → (L.getD i seg0).at_ ≤ t) ∧ (∀ i, hi ≤ i → i < L.length → t < (L.getD i seg0).at_) ∧ Below w.heap.size w W ∧ Bx W w.heap.size (Vec.box ⟨0, 0⟩) ∧ ∃ u7 u8 u9 u10 u11 u12 u13 u14 u15 u16 u17 u18 u19 u20 u21 u22 u23 u24 u25 u26 u27 u28 u29 u30 u31 u32 u33 u34 u35 u36 u37 u38 u39 u40 u41 : Value, a' = { tmps := #[.slice A L.length cap, .int .i64 t, undef, undef, .pointer (some ⟨w.heap.size, 0, none⟩), .int .i64 lo, .int .i64 hi, u7, u8, u9, u10, u11, u12, u13, u14, u15, u16, u17, u18, u19, u20, u21, u22, u23, u24, u25, u26, u27, u28, u29, u30, u31, u32, u33, u34, u35, u36, u37, u38, u39, u40, u41], defers := [] }) (fun a' _ => (intOf (a'.tmps.getD 6 undef) - intOf (a'.tmps.getD 5 undef)).toNat) rfl ?_ ?_
  · go_wp2_with (go_at_call 77; refine (rle_rises A L cap _ hn (hr.bl (by (repeat (first | exact bl_refl | assumption | apply bl_alloc | apply bl_drew | apply bl_drewN | (apply bl_set; (case hp => first | (simp; done) | (simp; omega))) | (apply bl_trans2; (case k => assumption))))))).mono ?_; rintro e w1 ⟨rfl, hb1⟩)
    go_step3
    have hb : Below w.heap.size w w1 := by (repeat (first | exact bl_refl | assumption | apply bl_alloc | apply bl_drew | apply bl_drewN | (apply bl_set; (case hp => first | (simp; done) | (simp; omega))) | (apply bl_trans2; (case k => assumption))))
    have hB0 := hB00.bl hb1
    have l0 := hB0.lt
    obtain ⟨g1, g2, g3, g4, _⟩ := hB0.two
    have HB := Lib.hid hB0
    clear hB0
    by_cases hlt : 0 < L.length
    · obtain ⟨k, hk⟩ : ∃ k, k = (0 + L.length) / 2 := ⟨_, rfl⟩
      have hk1 : 0 ≤ k := by omega
      have hk2 : k < L.length := by omega
      have hkL : k < L.length := by omega
      have e1 : IntKind.i64.wrap ((L.length : Int)) = (L.length : Int) := IntWalk.i64_in _ (by omega)
      have e2 : ((L.length : Int)) / 2 = k := by omega
      have hx : L[k]? = some L[k] := List.getElem?_eq_getElem hkL
      have hxe : L.getD k seg0 = L[k] := by rw [List.getD_eq_getElem?_getD, hx]; rfl
      obtain ⟨b, off, rfl, hbl, hc0, hc1, hc2⟩ := (hr.below hb).seg hx
      generalize L[k] = x at *
      have Hx := Lib.hid hxe
      clear hx hxe hr
      have Hk := Lib.hid hk
      clear hk
      by_cases hle : x.at_ ≤ t
      · go_wp2
        go_step3
        refine ⟨rfl, k + 1, L.length, by omega, by omega, fun i hi' => ?_, by intro j h1 h2; omega, by (repeat (first | exact bl_refl | assumption | apply bl_alloc | apply bl_drew | apply bl_drewN | (apply bl_set; (case hp => first | (simp; done) | (simp; omega))) | (apply bl_trans2; (case k => assumption)))), by first | exact HB.out | exact HB.out.drew, _, _, _, _, _, _, _, _, _, _, _, _, _, _, _, _, _, _, _, _, _, _, _, _, _, _, _, _, _, _, _, _, _, _, _, rfl⟩
        · have := rises_mono hs i k (by omega) hkL
          rw [Hx.out] at this; omega
      · go_wp2
        go_step3
        refine ⟨rfl, 0, k, by omega, by omega, by intro j h1; omega, fun i h1 h2 => ?_, by (repeat (first | exact bl_refl | assumption | apply bl_alloc | apply bl_drew | apply bl_drewN | (apply bl_set; (case hp => first | (simp; done) | (simp; omega))) | (apply bl_trans2; (case k => assumption)))), by first | exact HB.out | exact HB.out.drew, _, _, _, _, _, _, _, _, _, _, _, _, _, _, _, _, _, _, _, _, _, _, _, _, _, _, _, _, _, _, _, _, _, _, _, rfl⟩
        · have := rises_mono hs k i (by omega) h2
          rw [Hx.out] at this; omega
    · have hL : L = [] := List.eq_nil_of_length_eq_zero (by omega)
      subst hL
      go_wp2
      simp only [Exit.jump]
      exact bodyPost_ret (v := .agg #[.int .i64 0, .int .i64 0]) (by simp [results, Try.results55, go_sem, g1, g2, g3, g4]) rfl ⟨rfl, by (repeat (first | exact bl_refl | assumption | apply bl_alloc | apply bl_drew | apply bl_drewN | (apply bl_set; (case hp => first | (simp; done) | (simp; omega))) | (apply bl_trans2; (case k => assumption))))⟩
  · rintro a' W ⟨lo, hi, hlohi, hhiL, hlo, hhi, hb, hB0, u7, u8, u9, u10, u11, u12, u13, u14, u15, u16, u17, u18, u19, u20, u21, u22, u23, u24, u25, u26, u27, u28, u29, u30, u31, u32, u33, u34, u35, u36, u37, u38, u39, u40, u41, rfl⟩
    have l0 := hB0.lt
    obtain ⟨g1, g2, g3, g4, _⟩ := hB0.two
    have HB := Lib.hid hB0
    clear hB0
    have Hlo := Lib.hid hlo
    have Hhi := Lib.hid hhi
    clear hlo hhi
    by_cases hlt : lo < hi
    · obtain ⟨k, hk⟩ : ∃ k, k = (lo + hi) / 2 := ⟨_, rfl⟩
      have hk1 : lo ≤ k := by omega
      have hk2 : k < hi := by omega
      have hkL : k < L.length := by omega
      have e1 : IntKind.i64.wrap ((lo : Int) + hi) = (lo : Int) + hi := IntWalk.i64_in _ (by omega)
      have e2 : ((lo : Int) + hi) / 2 = k := by omega
      have hx : L[k]? = some L[k] := List.getElem?_eq_getElem hkL
      have hxe : L.getD k seg0 = L[k] := by rw [List.getD_eq_getElem?_getD, hx]; rfl
      obtain ⟨b, off, rfl, hbl, hc0, hc1, hc2⟩ := (hr.below hb).seg hx
      generalize L[k] = x at *
      have Hx := Lib.hid hxe
      clear hx hxe hr
      have Hk := Lib.hid hk
      clear hk
      by_cases hle : x.at_ ≤ t
      · go_wp2
        go_step3
        refine ⟨rfl, ⟨k + 1, hi, by omega, by omega, fun i hi' => ?_, Hhi.out, by (repeat (first | exact bl_refl | assumption | apply bl_alloc | apply bl_drew | apply bl_drewN | (apply bl_set; (case hp => first | (simp; done) | (simp; omega))) | (apply bl_trans2; (case k => assumption)))), by first | exact HB.out | exact HB.out.drew, _, _, _, _, _, _, _, _, _, _, _, _, _, _, _, _, _, _, _, _, _, _, _, _, _, _, _, _, _, _, _, _, _, _, _, rfl⟩, ?_⟩
        · have := rises_mono hs i k (by omega) hkL
          rw [Hx.out] at this; omega
        · simp [intOf]; omega
      · go_wp2
        go_step3
        refine ⟨rfl, ⟨lo, k, by omega, by omega, Hlo.out, fun i h1 h2 => ?_, by (repeat (first | exact bl_refl | assumption | apply bl_alloc | apply bl_drew | apply bl_drewN | (apply bl_set; (case hp => first | (simp; done) | (simp; omega))) | (apply bl_trans2; (case k => assumption)))), by first | exact HB.out | exact HB.out.drew, _, _, _, _, _, _, _, _, _, _, _, _, _, _, _, _, _, _, _, _, _, _, _, _, _, _, _, _, _, _, _, _, _, _, _, rfl⟩, ?_⟩
        · have := rises_mono hs k i (by omega) h2
          rw [Hx.out] at this; omega
        · simp [intOf]; omega
    · obtain rfl : lo = hi := by omega
      have ha := atF_split t L lo hhiL Hlo.out Hhi.out
      rcases Nat.eq_zero_or_pos lo with h0 | h0
      · subst h0
        rw [if_pos rfl] at ha
        have Ha := Lib.hid ha
        clear ha
        go_wp2
        simp only [Exit.jump]
        exact bodyPost_ret (v := .agg #[.int .i64 0, .int .i64 0]) (by simp [results, Try.results55, go_sem, g1, g2, g3, g4]) rfl ⟨by rw [Ha.out], by (repeat (first | exact bl_refl | assumption | apply bl_alloc | apply bl_drew | apply bl_drewN | (apply bl_set; (case hp => first | (simp; done) | (simp; omega))) | (apply bl_trans2; (case k => assumption))))⟩
      · obtain ⟨j, rfl⟩ : ∃ j, lo = j + 1 := ⟨lo - 1, by omega⟩
        rw [if_neg (by omega)] at ha
        simp only [Nat.add_sub_cancel] at ha
        have hx : L[j]? = some L[j] := List.getElem?_eq_getElem (by omega)
        have hxe : L.getD j seg0 = L[j] := by rw [List.getD_eq_getElem?_getD, hx]; rfl
        rw [hxe] at ha
        have Ha := Lib.hid ha
        clear ha
        obtain ⟨b, off, rfl, hbl, hc0, hc1, hc2⟩ := (hr.below hb).seg hx
        generalize L[j] = x at *
        have e1 : IntKind.i64.wrap (j : Int) = j := IntWalk.i64_in _ (by omega)
        have e2 : (j : Int) < L.length := by omega
        have e3 : (0 : Int) ≤ j := by omega
        clear hx hxe hr
        go_wp2
        simp only [Exit.jump]
        exact bodyPost_ret (v := .agg #[.int .i64 x.v.m, .int .i64 x.v.c]) (by simp [results, Try.results55, go_sem, g1, g2, g3, g4]) rfl ⟨by rw [Ha.out], by (repeat (first | exact bl_refl | assumption | apply bl_alloc | apply bl_drew | apply bl_drewN | (apply bl_set; (case hp => first | (simp; done) | (simp; omega))) | (apply bl_trans2; (case k => assumption))))⟩

end Go.Proofs.Ytdbogephaddbjaa
