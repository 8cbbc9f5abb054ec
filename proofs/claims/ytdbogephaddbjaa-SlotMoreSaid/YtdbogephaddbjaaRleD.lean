/- rle.folded, Of, Box. -/
import Derived.Test.YtdbogephaddbjaaRleC
import Derived.Tactics
import Derived.Tactics2
import Derived.WalkKit
import Derived.LoopTactic
import Derived.WalkLawsBesides
import Derived.WalkSpells
import Derived.Outline
import Derived.Deep.QuietTactic
import Derived.BigQuiet
import Derived.Deep.DeepCutAuto
import Derived.Deep.LoopGhost
import Derived.Deep.RegionHeld3
import Derived.RegionTactic
import Derived.KernelRfl
import Derived.Lib.Hide
set_option linter.unusedVariables false
set_option linter.unusedSimpArgs false
namespace Go.Proofs.Ytdbogephaddbjaa
open Go.RowKit

theorem OwnSegs.mono {w : World} {b b' : Nat} {v : Value} {L : List Seg} (h : OwnSegs w b v L) (hb : b' ≤ b) : OwnSegs w b' v L := by
  refine ⟨h.1, ?_⟩
  rcases h.2 with h0 | ⟨g, cap, cur, e1, e2, r⟩
  · exact .inl h0
  · exact .inr ⟨g, cap, cur, e1, by omega, r⟩

set_option maxRecDepth 20000 in
set_option maxHeartbeats 4000000 in
theorem rle_folded (A : Option Addr) (L : List Seg) (cap : Nat) (w : World) (hn : L.length ≤ 1000000) (hr : Segs w w.heap.size A L) :
    Calls Try.prog 84 #[.slice A L.length cap] w fun e w' => (∃ v, e = .returned v ∧ OwnSegs w' w.heap.size v (foldedF L)) ∧ Below w.heap.size w w' := by
  have hcl := clone_seg A L cap w hn hr
  clear hr
  by_cases hL : L = []
  · subst hL
    go_enter Try.func84, Try.ntmps84
    go_wp2_with (first
      | (go_at_call 100; refine hcl.mono ?_; clear hcl; rintro e w1 ⟨⟨v, rfl, hO⟩, hb⟩; obtain ⟨A1, cap1, rfl⟩ := hO.form)
      | (go_at_call 101; refine (sortStable_none A1 cap1 _ _).mono ?_; rintro e w' ⟨⟨r, rfl⟩, rfl⟩))
    refine wp_loop_rounds 1 ?_
    rw [rounds_succ]
    go_wp2
    go_ret
    exact ⟨⟨_, rfl, rfl, .inl ⟨rfl, rfl⟩⟩, by (repeat (first | exact bl_refl | assumption | apply bl_alloc | apply bl_drew | apply bl_drewN | (apply bl_set; (case hp => first | (simp; done) | (simp; omega))) | (apply bl_trans2; (case k => assumption))))⟩
  · have hpos : 0 < L.length := List.length_pos_iff.2 hL
    obtain ⟨SL, hSL⟩ : ∃ SL, SL = isort ltA L := ⟨_, rfl⟩
    have hlen : SL.length = L.length := by rw [hSL]; exact length_isort
    have hfin : foldedF L = (foldSt SL L.length).2 := by rw [hSL]; rfl
    have HL := Lib.hid (And.intro hL (And.intro hlen hfin))
    have HSL := Lib.hid hSL
    clear hL hlen hfin hSL
    go_enter Try.func84, Try.ntmps84
    go_wp2_with (first
      | (go_at_call 100; refine hcl.mono ?_; clear hcl; rintro e w1 ⟨⟨v, rfl, hO⟩, hb1⟩; obtain ⟨A1, cap1, rfl⟩ := hO.form; obtain ⟨gl, rfl, hgl, hgl2, hA⟩ := hO.arr HL.out.1; clear hO)
      | (go_at_call 101; refine (sortStable_seg ltA_swo rle_compare_in (cmp_compare _) gl 0 cap1 (fun h => h) (fun _ _ _ h => h) L hn _ hA trivial).mono ?_; rintro e w2 ⟨⟨r, rfl⟩, hA2, -, hM2⟩; clear hA))
    have hA2' : SegArr w2 gl 0 L.length (fun i => SL.getD i seg0) := by rw [HSL.out]; exact hA2
    have hb2 : Below w.heap.size w w2 := hb1.trans (hM2.below hb1.size (fun k hk => by rcases hk with rfl | h; exact hgl; exact h.elim))
    have hgl3 : gl < w2.heap.size := by have := hM2.size; omega
    have Hgl := Lib.hid (And.intro hgl (And.intro hgl3 hb2.size))
    have h0 : PutVars ((w2.alloc (.cells #[.slice none 0 0] 22)).alloc (.cells #[.int .i64 0, .int .i64 0] 51)) (w2.heap.size + 1) w2.heap.size (w2.heap.size + 2) ⟨0, 0⟩ [] (.slice none 0 0) := by
      refine ⟨?_, (Bx.new w2 [.slice none 0 0] _).alloc _, ⟨rfl, .inl ⟨rfl, rfl⟩⟩, by simp⟩
      have := Bx.new (w2.alloc (.cells #[.slice none 0 0] 22)) [.int .i64 0, .int .i64 0] 51
      rw [World.size_alloc] at this
      exact this
    have H0 := Lib.hid (And.intro h0 (And.intro hA2' hb2))
    clear h0 hA2 hA2' hb2 hb1 hM2 hgl hgl2 hgl3
    go_loopw [7, 8, 18] (fun _ _ z W => ∃ (k : Nat) (v : Value), k ≤ L.length ∧ z = .int .i64 k ∧ PutVars W (w2.heap.size + 1) w2.heap.size (w2.heap.size + 2) (foldSt SL k).1 (foldSt SL k).2 v ∧ SegArr W gl 0 L.length (fun i => SL.getD i seg0) ∧ Below w.heap.size w W) (fun _ _ z _ => L.length - (intOf z).toNat)
    case atStart =>
      obtain ⟨h0, hA2', hb2⟩ := H0.out
      exact ⟨0, _, Nat.zero_le _, rfl, h0, hA2'.mod (Mod.of_bl (S := fun _ => False) (bl_alloc (bl_alloc bl_refl))) (fun h => h), by (repeat (first | exact bl_refl | assumption | apply bl_alloc | apply bl_drew | apply bl_drewN | (apply bl_set; (case hp => first | (simp; done) | (simp; omega))) | (apply bl_trans2; (case k => assumption))))⟩
    case round =>
      obtain ⟨k, v, hk, rfl, hP, hA, hb⟩ := hrel
      by_cases hlt : k < L.length
      · have hx := hA k hlt
        rw [Nat.zero_add] at hx
        obtain ⟨x, hX⟩ : ∃ x, SL.getD k seg0 = x := ⟨_, rfl⟩
        dsimp only at hx
        rw [hX] at hx
        have HX := Lib.hid hX
        obtain ⟨x0, x1, x2, -, -, -⟩ := hx
        have hlast : ∀ W, PutVars W (w2.heap.size + 1) w2.heap.size (w2.heap.size + 2) (foldSt SL k).1 (foldSt SL k).2 v → Calls Try.prog 102 #[.agg #[.int .i64 x.at_, .int .i64 x.v.m, .int .i64 x.v.c], .pointer (some ⟨w2.heap.size + 1, 0, none⟩), .pointer (some ⟨w2.heap.size, 0, none⟩)] W fun e w' =>
            (∃ r, e = .returned r) ∧ (∃ v', PutVars w' (w2.heap.size + 1) w2.heap.size (w2.heap.size + 2) (putLast (foldSt SL k).1 x) (putOut (foldSt SL k).1 (foldSt SL k).2 x) v') ∧ Mod (fun j => j = w2.heap.size + 1 ∨ j = w2.heap.size ∨ w2.heap.size + 2 ≤ j) W w' :=
          fun W hPW => folded1 _ _ _ (by omega) (by omega) (by omega) _ _ v x W (by have := foldSt_len SL k; omega) hPW
        have HP := Lib.hid (And.intro hP (And.intro hA hb))
        have hge : w2.heap.size + 2 ≤ wr.heap.size := hP.b
        clear hX hP
        have ex1 : IntKind.i64.wrap ((k : Int) + 1) = (k : Int) + 1 := IntWalk.i64_in _ (by omega)
        by_cases hend : k + 1 = L.length
        · have Hl := Lib.hid hend
          have t1 : ((k : Int) + 1 == L.length) = true := by simp; omega
          have hK : PutVars (wr.alloc (.cells #[.int .i64 x.at_, .int .i64 x.v.m, .int .i64 x.v.c] 62)) (w2.heap.size + 1) w2.heap.size (w2.heap.size + 2) (foldSt SL k).1 (foldSt SL k).2 v :=
            ⟨HP.out.1.l.alloc _, HP.out.1.o.alloc _, HP.out.1.r.alloc _, by simp; omega⟩
          have HK := Lib.hid (And.intro hK (And.intro (hA.mod (Mod.of_bl (S := fun _ => False) (bl_alloc bl_refl)) (fun h => h) : SegArr (wr.alloc (.cells #[.int .i64 x.at_, .int .i64 x.v.m, .int .i64 x.v.c] 62)) gl 0 L.length (fun i => SL.getD i seg0)) (bl_alloc hb : Below w.heap.size w (wr.alloc (.cells #[.int .i64 x.at_, .int .i64 x.v.m, .int .i64 x.v.c] 62)))))
          clear hK hA hb
          go_wp2
          go_quiet (fail)
          go_wp2_with (refine (hlast _ ⟨HK.out.1.l.drewN, HK.out.1.o.drewN, HK.out.1.r, HK.out.1.b⟩).mono ?_; clear hlast; rintro e w3 ⟨⟨r, rfl⟩, ⟨v3, hP3⟩, hM3⟩)
          go_roundw
          case rel =>
            refine ⟨k + 1, v3, by omega, by go_num, ?_, ?_, ?_⟩
            · rw [foldSt_succ, foldStep, HX.out, if_pos (.inl (by rw [HL.out.2.1]; exact Hl.out))]
              exact hP3
            · exact (HK.out.2.1.mod (Mod.of_bl (S := fun _ => False) (bl_drewN bl_refl)) (fun h => h)).mod hM3 (by have := Hgl.out; omega)
            · exact (bl_drewN HK.out.2.2).trans (hM3.below (Nat.le_trans (by have := Hgl.out; omega) HK.out.1.b) (by have := Hgl.out; omega))
          case measure => first | (simp [intOf]; done) | (simp [intOf]; omega)
        · have Hl := Lib.hid hend
          have t1 : ((k : Int) + 1 == L.length) = false := by simp; omega
          have hy := hA (k + 1) (by omega)
          rw [Nat.zero_add] at hy
          obtain ⟨y, hY⟩ : ∃ y, SL.getD (k + 1) seg0 = y := ⟨_, rfl⟩
          dsimp only at hy
          rw [hY] at hy
          have HY := Lib.hid hY
          obtain ⟨y0, -, -, -, -, -⟩ := hy
          have y1 : (wr.alloc (.cells #[.int .i64 x.at_, .int .i64 x.v.m, .int .i64 x.v.c] 62)).cell? ⟨gl, (k + 1) * 3, none⟩ = some (.int .i64 y.at_) := bl_cell (bl_alloc bl_refl) y0
          have y2 : gl < wr.heap.size := by have := lt_of_cell y0; simpa using this
          have t3 : (0 : Int) ≤ (k : Int) + 1 := by omega
          have t4 : (k : Int) + 1 < L.length := by omega
          have t5 : ((k : Int) + 1).toNat = k + 1 := by omega
          clear hY
          have hK : PutVars (wr.alloc (.cells #[.int .i64 x.at_, .int .i64 x.v.m, .int .i64 x.v.c] 62)) (w2.heap.size + 1) w2.heap.size (w2.heap.size + 2) (foldSt SL k).1 (foldSt SL k).2 v :=
            ⟨HP.out.1.l.alloc _, HP.out.1.o.alloc _, HP.out.1.r.alloc _, by simp; omega⟩
          have HK := Lib.hid (And.intro hK (And.intro (hA.mod (Mod.of_bl (S := fun _ => False) (bl_alloc bl_refl)) (fun h => h) : SegArr (wr.alloc (.cells #[.int .i64 x.at_, .int .i64 x.v.m, .int .i64 x.v.c] 62)) gl 0 L.length (fun i => SL.getD i seg0)) (bl_alloc hb : Below w.heap.size w (wr.alloc (.cells #[.int .i64 x.at_, .int .i64 x.v.m, .int .i64 x.v.c] 62)))))
          clear hK hA hb
          by_cases hne : y.at_ = x.at_
          · have Hn := Lib.hid hne
            have t2 : (!(y.at_ == x.at_)) = false := by simp [hne]
            have t2' : (y.at_ == x.at_) = true := by simp [hne]
            clear hne hlast
            go_wp2
            go_quiet (fail)
            go_wp2
            go_roundw
            case rel =>
              refine ⟨k + 1, v, by omega, by go_num, ?_, ?_, ?_⟩
              · rw [foldSt_succ, foldStep, HX.out, HY.out, if_neg (by rw [HL.out.2.1]; intro h; rcases h with h | h; exact Hl.out h; exact h Hn.out)]
                exact ⟨HK.out.1.l.drewN, HK.out.1.o.drewN, HK.out.1.r, HK.out.1.b⟩
              · exact HK.out.2.1.mod (Mod.of_bl (S := fun _ => False) (bl_drewN bl_refl)) (fun h => h)
              · exact bl_drewN HK.out.2.2
            case measure => first | (simp [intOf]; done) | (simp [intOf]; omega)
          · have Hn := Lib.hid hne
            have t2 : (!(y.at_ == x.at_)) = true := by simp [hne]
            have t2' : (y.at_ == x.at_) = false := by simp [hne]
            clear hne
            go_wp2
            go_quiet (fail)
            go_wp2_with (refine (hlast _ ⟨HK.out.1.l.drewN, HK.out.1.o.drewN, HK.out.1.r, HK.out.1.b⟩).mono ?_; clear hlast; rintro e w3 ⟨⟨r, rfl⟩, ⟨v3, hP3⟩, hM3⟩)
            go_roundw
            case rel =>
              refine ⟨k + 1, v3, by omega, by go_num, ?_, ?_, ?_⟩
              · rw [foldSt_succ, foldStep, HX.out, if_pos (.inr (by rw [HY.out]; exact Hn.out))]
                exact hP3
              · exact (HK.out.2.1.mod (Mod.of_bl (S := fun _ => False) (bl_drewN bl_refl)) (fun h => h)).mod hM3 (by have := Hgl.out; omega)
              · exact (bl_drewN HK.out.2.2).trans (hM3.below (Nat.le_trans (by have := Hgl.out; omega) HK.out.1.b) (by have := Hgl.out; omega))
            case measure => first | (simp [intOf]; done) | (simp [intOf]; omega)
      · obtain rfl : k = L.length := by omega
        obtain ⟨A3, cap3, rfl⟩ := hP.r.form
        obtain ⟨o1, o2, o3⟩ := hP.o.one
        have HP := Lib.hid hP
        clear hP hA
        go_wp2
        go_ret
        refine ⟨⟨_, rfl, ?_⟩, hb⟩
        rw [HL.out.2.2]
        exact HP.out.r.mono (by have := Hgl.out; omega)

/-! ### rle.Of, Box -/
def ofF (raw : List Seg) : List Seg × Int := if raw.all inB then (foldedF raw, 0) else ([], 10)
def boxF (f t : Int) (v : Vec) : List Seg × Int := if t < f then ([], 2) else ofF [⟨f, v⟩, ⟨t, ⟨0, 0⟩⟩]
def SegErr (w : World) (r : List Seg × Int) (e : Ending) (w' : World) : Prop := (∃ v, e = .returned (.tuple #[v, .int .i64 r.2]) ∧ OwnSegs w' w.heap.size v r.1) ∧ Below w.heap.size w w'

set_option maxHeartbeats 400000 in
theorem of1 (x : Seg) (w : World) :
    Calls Try.prog 83 #[.agg #[.int .i64 x.at_, .int .i64 x.v.m, .int .i64 x.v.c]] w fun e w' => e = .returned (.bool (!inB x)) ∧ Below w.heap.size w w' := by
  go_enter Try.func83, Try.ntmps83
  go_wp2_with (go_at_call 69; refine (rle_in _ _ _ _).mono ?_; rintro e w1 ⟨rfl, hb1⟩)
  go_ret
  exact ⟨rfl, by (repeat (first | exact bl_refl | assumption | apply bl_alloc | apply bl_drew | apply bl_drewN | (apply bl_set; (case hp => first | (simp; done) | (simp; omega))) | (apply bl_trans2; (case k => assumption))))⟩
theorem of1_enters : Enters Try.prog 83 := fun _ _ => by kernel_rfl
theorem any_notin (L : List Seg) : (List.range L.length).any (fun i => !inB (L.getD i seg0)) = !L.all inB := by
  rw [Bool.eq_iff_iff, List.any_eq_true, Bool.not_eq_true', List.all_eq_false]
  constructor
  · rintro ⟨i, hi, h⟩
    have hi' : i < L.length := by simpa using hi
    refine ⟨L[i], List.getElem_mem _, ?_⟩
    rw [List.getD_eq_getElem?_getD, List.getElem?_eq_getElem hi'] at h
    simpa using h
  · rintro ⟨x, hx, h⟩
    obtain ⟨i, hi, rfl⟩ := List.mem_iff_getElem.1 hx
    refine ⟨i, by simpa using hi, ?_⟩
    rw [List.getD_eq_getElem?_getD, List.getElem?_eq_getElem hi]
    simpa using h

set_option maxHeartbeats 1000000 in
theorem rle_of (A : Option Addr) (L : List Seg) (cap : Nat) (w : World) (hn : L.length ≤ 1000000) (hr : Segs w w.heap.size A L) :
    Calls Try.prog 61 #[.slice A L.length cap] w (SegErr w (ofF L)) := by
  have hcon := containsFunc_seg A L cap 83 #[] (fun i => !inB (L.getD i seg0)) (fun _ W => Below w.heap.size w W) w hn of1_enters (fun i W hb => hr.bl hb) (Below.refl _ _)
    (fun i x W hx hb => by
      refine (of1 x W).mono ?_
      rintro e W' ⟨rfl, hb'⟩
      refine ⟨ret_bool ?_, bl_trans hb hb'⟩
      rw [List.getD_eq_getElem?_getD, hx]; rfl)
  have hany := any_notin L
  cases hall : L.all inB with
  | true =>
    rw [hall] at hany
    have ho : ofF L = (foldedF L, 0) := by unfold ofF; rw [if_pos hall]
    rw [ho]
    unfold HasPost at hcon
    rw [hany] at hcon
    clear hany ho hall
    go_enter Try.func61, Try.ntmps61
    go_wp2_with (first
      | (go_at_call 67; refine hcon.mono ?_; clear hcon; rintro e w1 ⟨rfl, k, hb1⟩)
      | (go_at_call 84; refine (rle_folded A L cap _ hn (hr.bl hb1)).mono ?_; rintro e w2 ⟨⟨v, rfl, hO⟩, hb2⟩))
    go_ret2
    exact ⟨⟨_, rfl, hO.mono hb1.size⟩, bl_trans hb1 hb2⟩
  | false =>
    rw [hall] at hany
    have ho : ofF L = ([], 10) := by unfold ofF; rw [hall]; rfl
    rw [ho]
    unfold HasPost at hcon
    rw [hany] at hcon
    clear hany ho hall
    go_enter Try.func61, Try.ntmps61
    go_wp2_with (go_at_call 67; refine hcon.mono ?_; clear hcon; rintro e w1 ⟨rfl, k, hb1⟩)
    go_ret2
    exact ⟨⟨_, rfl, rfl, .inl ⟨rfl, rfl⟩⟩, hb1⟩

theorem segs_new (w : World) (L : List Seg) (t : TypeId) : Segs (w.alloc (.cells (flat Seg.cells L).toArray t)) (w.alloc (.cells (flat Seg.cells L).toArray t)).heap.size (some ⟨w.heap.size, 0, none⟩) L := fun _ => by
  refine ⟨w.heap.size, 0, rfl, by simp, fun i x hx j u hu => ?_⟩
  rw [Nat.zero_add]
  exact (Bx.new w _ t).cell _ (flat_get seg_len L i x hx j u hu)

set_option maxHeartbeats 1000000 in
theorem rle_box (f t m c : Int) (w : World) :
    Calls Try.prog 45 #[.int .i64 f, .int .i64 t, .agg #[.int .i64 m, .int .i64 c]] w (SegErr w (boxF f t ⟨m, c⟩)) := by
  by_cases h : t < f
  · have hb : boxF f t ⟨m, c⟩ = ([], 2) := by unfold boxF; rw [if_pos h]
    rw [hb]; clear hb
    go_enter Try.func45, Try.ntmps45
    go_wp2
    go_ret2
    exact ⟨⟨_, rfl, rfl, .inl ⟨rfl, rfl⟩⟩, by (repeat (first | exact bl_refl | assumption | apply bl_alloc | apply bl_drew | apply bl_drewN | (apply bl_set; (case hp => first | (simp; done) | (simp; omega))) | (apply bl_trans2; (case k => assumption))))⟩
  · have hb : boxF f t ⟨m, c⟩ = ofF [⟨f, ⟨m, c⟩⟩, ⟨t, ⟨0, 0⟩⟩] := by unfold boxF; rw [if_neg h]
    rw [hb]; clear hb
    go_enter Try.func45, Try.ntmps45
    go_wp2_with fail
    have hs := segs_new (w.alloc (.cells #[.int .i64 m, .int .i64 c] 51)) [⟨f, ⟨m, c⟩⟩, ⟨t, ⟨0, 0⟩⟩] 62
    refine (rle_of _ [⟨f, ⟨m, c⟩⟩, ⟨t, ⟨0, 0⟩⟩] 2 _ (by simp) (by simpa [flat, Seg.cells] using hs)).mono ?_
    rintro e w1 ⟨⟨v, rfl, hO⟩, hb1⟩
    go_wp2
    go_ret2
    exact ⟨⟨_, rfl, hO.mono (by simp; omega)⟩, by (repeat (first | exact bl_refl | assumption | apply bl_alloc | apply bl_drew | apply bl_drewN | (apply bl_set; (case hp => first | (simp; done) | (simp; omega))) | (apply bl_trans2; (case k => assumption))))⟩

end Go.Proofs.Ytdbogephaddbjaa
