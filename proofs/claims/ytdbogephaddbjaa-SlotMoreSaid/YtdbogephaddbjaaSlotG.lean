/- slot.Begins. -/
import Derived.Test.YtdbogephaddbjaaSlotF
import Derived.Tactics
import Derived.Tactics2
import Derived.WalkKit
import Derived.LoopTactic
import Derived.WalkLawsBesides
import Derived.WalkSpells
import Derived.Outline
import Derived.Deep.QuietTactic
import Derived.BigQuiet
import Derived.Deep.DeepCutAuto
import Derived.Deep.LoopGhost
import Derived.Deep.RegionHeld3
import Derived.RegionTactic
import Derived.KernelRfl
import Derived.Lib.Hide
set_option linter.unusedVariables false
set_option linter.unusedSimpArgs false
namespace Go.Proofs.Ytdbogephaddbjaa
open Go.RowKit
attribute [local go_sem] Oper.semAt_some

set_option maxRecDepth 100000 in
set_option maxHeartbeats 8000000 in
theorem slot_begins (A A' : Option Addr) (F : List Seg) (L : List Leg) (c c' : Nat) (f t : Int) (w : World) (hn : F.length ≤ 100000) (hl : L.length ≤ 1000000) (hF : Segs w w.heap.size A F) (hL : Legs w w.heap.size A' L)
    (hf : -9223372036854775808 ≤ f ∧ f ≤ 9223372036854775807) (ht : -9223372036854775808 ≤ t ∧ t ≤ 9223372036854775807) :
    Calls Try.prog 9 #[.slice A F.length c, .agg #[.int .i64 f, .int .i64 t], .slice A' L.length c'] w fun e w' =>
      (∃ v, e = .returned (.tuple #[v, .int .i64 (beginsF F ⟨f, t⟩ L).2]) ∧ RdWins w' v (beginsF F ⟨f, t⟩ L).1) ∧ Below w.heap.size w w' := by
  have hck := slot_check A A' F L c c' f t (w.alloc (.cells #[.int .i64 f, .int .i64 t] 24)) (by omega) hl (hF.bl (bl_alloc bl_refl)) (hL.bl (bl_alloc bl_refl)) hf ht
  refine (callsIn_wide (n := 3)).1 ?_
  refine callsIn_of_wp_marks Try.func9 rfl trivial ?_
  simp only [Try.ntmps9, List.size_toArray, List.length_cons, List.length_nil, Nat.reduceAdd, Nat.reduceSub, Array.replicate_succ, Array.replicate_zero, List.push_toArray, List.append_toArray, List.nil_append, List.cons_append]
  have b0 := Bx.new w [.int .i64 f, .int .i64 t] 24
  by_cases he : (checkF F ⟨f, t⟩ L).2 = 0
  · have hC := checkF_ok.1 he
    rw [checkF_len hC] at hck
    dsimp only at hck
    have hw1 := hC.w1
    have hw2 := hC.w2
    have hf1 := hC.f1
    have ht2 := hC.f2
    dsimp only at hw1 hw2 hf1 ht2
    have hld := (lenF_ok hC.len)
    have hs0 := sumD_pos fun x hx => (hld.1 x hx).1
    have hs1 : sumD L ≤ 65536 := by have := (sumD_bd L (List.all_eq_true.2 fun x hx => by have := hld.1 x hx; unfold dOk; simpa using this)).2; omega
    by_cases hs : t - f < sumD L
    · have hr : beginsF F ⟨f, t⟩ L = ([], 0) := by
        unfold beginsF
        rw [if_neg (by rw [he]; simp), checkF_len hC, if_pos hs]
      rw [hr]
      have HB := Lib.hid b0
      clear hr hF hL b0 hld hC he
      gi_wp2_with (refine ⟨trivial, ?_⟩; gi_at_call 27; refine (callsIn_wide.2 hck).mono ?_; clear hck; rintro e w1 ⟨rfl, hb1⟩; obtain ⟨p1, p2, p3, p4, p5⟩ := (HB.out.bl hb1).two)
      refine ⟨.tuple #[.slice none 0 0, .int .i64 0], by simp [results, Try.results9, go_sem], ⟨_, rfl, RdWins.nil⟩, bl_trans (bl_alloc bl_refl) hb1⟩
    · have hr : beginsF F ⟨f, t⟩ L = ((legSt F L f t L.length).2, 0) := by
        unfold beginsF legSt
        rw [if_neg (by rw [he]; simp), checkF_len hC, if_neg (show ¬ (t - f < sumD L) by omega), List.take_length]
      rw [hr]
      obtain ⟨out, hout⟩ : ∃ out, (legSt F L f t L.length).2 = out := ⟨_, rfl⟩
      rw [hout]
      have HO := Lib.hid hout
      have HB := Lib.hid (And.intro b0 (And.intro hF (And.intro hL (And.intro hld hC))))
      clear hF hL b0 hld hC he hr hout
      gi_wp2_with (refine ⟨trivial, ?_⟩; gi_at_call 27; refine (callsIn_wide.2 hck).mono ?_; clear hck; rintro e w1 ⟨rfl, hb1⟩; obtain ⟨p1, p2, p3, p4, p5⟩ := (HB.out.1.bl hb1).two)
      obtain ⟨bo, hbo⟩ : ∃ bo, w1.heap.size + 1 = bo := ⟨_, rfl⟩
      have hbo1 : w1.heap.size + 1 + 1 = bo + 1 := by omega
      obtain ⟨W, hW⟩ : ∃ W, (((w1.alloc (.cells #[.int .i64 f, .int .i64 (t - sumD L + 1)] 24)).alloc (.cells #[.slice (some ⟨w1.heap.size, 0, none⟩) 1 1] 31)).alloc (.cells #[.int .i64 0] 2)) = W := ⟨_, rfl⟩
      rw [hW, hbo1, hbo]
      have hInv : BegInv w W bo F L f t 0 [] := by
        rw [← hW]
        have y1 := Bx.new (w1.alloc (.cells #[.int .i64 f, .int .i64 (t - sumD L + 1)] 24)) [.slice (some ⟨w1.heap.size, 0, none⟩) 1 1] 31
        have y2 := Bx.new ((w1.alloc (.cells #[.int .i64 f, .int .i64 (t - sumD L + 1)] 24)).alloc (.cells #[.slice (some ⟨w1.heap.size, 0, none⟩) 1 1] 31)) [.int .i64 0] 2
        simp only [World.size_alloc, hbo1, hbo] at y1 y2
        have hz := hb1.size
        simp only [World.size_alloc] at hz
        refine ⟨by (repeat (first | exact bl_refl | assumption | apply bl_alloc | apply bl_drew | apply bl_drewN | (apply bl_set; (case hp => first | (simp; done) | (simp; omega))) | (apply bl_trans2; (case k => assumption)))), (((HB.out.1.bl hb1).alloc _).alloc _).alloc _, y2, ⟨_, y1.alloc _, ?_⟩, by omega, by simp; omega, ⟨fun d hd => by simp at hd, List.Pairwise.nil⟩⟩
        refine ⟨some ⟨w1.heap.size, 0, none⟩, 1, rfl, Nat.le_refl _, fun _ => ⟨w1.heap.size, 0, rfl, by simp; omega, by omega, fun i x hx j u hu => ?_⟩⟩
        match i, hx with
        | 0, hx =>
          injection hx with hx
          subst hx
          have y0 := ((Bx.new w1 [.int .i64 f, .int .i64 (t - sumD L + 1)] 24).alloc (.cells #[.slice (some ⟨w1.heap.size, 0, none⟩) 1 1] 31)).alloc (.cells #[.int .i64 0] 2)
          have := y0.cell j hu
          rw [show 0 + 0 * 2 + j = j by omega]
          exact this
      have HI0 := Lib.hid hInv
      have HB2 := Lib.hid HB.out.2
      clear hInv hW p1 p2 p3 p4 hb1 p5 hbo hbo1
      refine wpIn_loop (fun a' W => ∃ (k : Nat) (u45 u13 u14 u15 u16 u17 u18 u19 u20 u21 u22 u23 u24 u25 u26 u27 u28 u29 u30 u31 u32 u33 u34 u35 u36 u37 u38 u39 u40 u41 u42 u46 u47 u48 u49 u50 u51 u52 u53 u54 u55 u56 u57 u58 u59 u60 u61 u62 u63 u64 u65 u66 u67 u68 u69 u70 u71 u72 u73 u74 : Value) (ds : List Deferred), (k ≤ L.length ∧ u45 = .int .i64 (k : Int) ∧ BegInv w W bo F L f t k ds) ∧ a' = ⟨#[.slice A F.length c, .agg #[.int .i64 f, .int .i64 t], .slice A' L.length c', undef, .pointer (some ⟨w.heap.size, 0, none⟩), undef, .slice none 0 0, .int .i64 0, .int .i64 (sumD L), .int .i64 0, .pointer (some ⟨bo, 0, none⟩), .pointer (some ⟨bo + 1, 0, none⟩), undef, u13, u14, u15, u16, u17, u18, u19, u20, u21, u22, u23, u24, u25, u26, u27, u28, u29, u30, u31, u32, u33, u34, u35, u36, u37, u38, u39, u40, u41, u42, .slice A' L.length c', .int .i64 (L.length : Int), u45, u46, u47, u48, u49, u50, u51, u52, u53, u54, u55, u56, u57, u58, u59, u60, u61, u62, u63, u64, u65, u66, u67, u68, u69, u70, u71, u72, u73, u74, undef, undef, undef, undef], ds⟩) (fun a' _ => L.length - (intOf (a'.tmps.getD 45 undef)).toNat) ?start ?round
      case start =>
        refine ⟨0, ?_⟩
        repeat apply Exists.intro
        exact ⟨⟨Nat.zero_le _, rfl, HI0.out⟩, rfl⟩
      case round =>
        clear HI0 W
        rintro _ W ⟨k, u45, u13, u14, u15, u16, u17, u18, u19, u20, u21, u22, u23, u24, u25, u26, u27, u28, u29, u30, u31, u32, u33, u34, u35, u36, u37, u38, u39, u40, u41, u42, u46, u47, u48, u49, u50, u51, u52, u53, u54, u55, u56, u57, u58, u59, u60, u61, u62, u63, u64, u65, u66, u67, u68, u69, u70, u71, u72, u73, u74, ds, ⟨hk, rfl, hI⟩, rfl⟩
        dsimp only
        by_cases hlt : k < L.length
        · have hx : L[k]? = some L[k] := List.getElem?_eq_getElem hlt
          obtain ⟨hF, hL, hld, hC⟩ := HB2.out
          obtain ⟨rb, ro, rfl, hrb, x0, x1, x2⟩ := (hL.below hI.lo).leg hx
          obtain ⟨x, hxe⟩ : ∃ x, L[k] = x := ⟨_, rfl⟩
          rw [hxe] at hx x0 x1 x2
          clear hxe
          obtain ⟨b1, b2, b3, b4, b5⟩ := hI.b.two
          have r1 : rb < W.heap.size := by omega
          have hlow := fun W (A : Option Addr) => slot_low A F.length c f t x.v.m x.v.c W
          have HI := Lib.hid (And.intro hI (And.intro hx (And.intro hF (And.intro hld hC))))
          clear hI hx hF hL hld hC
          gi_wp2_with (refine ⟨trivial, ?_⟩; gi_at_call 28; refine (callsIn_wide.2 (hlow _ _)).mono ?_; clear hlow; rintro e w2 ⟨rfl, hw2⟩; subst hw2)
          obtain ⟨W2, hW2⟩ : ∃ W2, ((((W.alloc (.cells #[.int .i64 x.d, .int .i64 x.v.m, .int .i64 x.v.c] 53)).alloc (.cells #[.slice A F.length c] 22)).alloc (.cells #[.int .i64 f, .int .i64 t] 24)).alloc (.cells #[.int .i64 x.v.m, .int .i64 x.v.c] 51)) = W2 := ⟨_, rfl⟩
          have hE : RngEnv W W2 A F c f t x := by rw [← hW2]; exact RngEnv.mk' W A F c f t x
          rw [hW2]
          have HE := Lib.hid hE
          have hz2 := hE.z
          clear hW2 b1 b2 b3 b4 b5 x0 x1 x2 hE
          obtain ⟨hI, hx, hF, hld, hC⟩ := HI.out
          have hzo := hI.z0
          have hz := hI.z
          refine range_law (gf := 54) (lb := #[.pointer (some ⟨W.heap.size + 1 + 1, 0, none⟩), .pointer (some ⟨W.heap.size + 1, 0, none⟩), .pointer (some ⟨W.heap.size + 1 + 1 + 1, 0, none⟩)]) rfl low1_enters (lowF F ⟨f, t⟩ x.v).length (encW (lowF F ⟨f, t⟩ x.v)) (fun _ => False)
            (fun k => k < w.heap.size ∨ k = W.heap.size + 1 + 1 ∨ k = W.heap.size + 1 ∨ k = W.heap.size + 1 + 1 + 1) (fun k => k = bo) ?hit ?hOwn ?hProt ?hSb ?hps
            (RngInv w W2 bo W.heap.size F f t x (legSt F L f t k).1 (legSt F L f t k).2 ds) (fun _ _ _ _ => False) ?hI ?hIx ?h0 ?hround ?hdone ?hstop
          case hit =>
            intro W' hW hs
            exact low1_iter w.heap.size (W.heap.size + 1 + 1) (W.heap.size + 1) (W.heap.size + 1 + 1 + 1) A F c ⟨f, t⟩ x.v W' hn ⟨HE.out.yw.bl hW, HE.out.yf.bl hW, HE.out.yv.bl hW, hF.below (hI.lo.trans ((HE.out.b.trans (hW.mono (by omega))).mono (by omega)))⟩ (by omega)
          case hOwn => rintro k h; exact h.elim
          case hProt => rintro k (h | rfl | rfl | rfl) <;> omega
          case hSb => rintro k rfl; omega
          case hps =>
            intro k
            unfold encW
            split <;> rfl
          case hI => exact fun S S' k W' W'' hi hS hSS hM => hi.mod hM hS hSS (by omega) (by omega) (by omega)
          case hIx => exact fun _ _ _ _ _ _ h _ _ _ => h
          case h0 => exact fun S W' hS hM hz' => hI.rng HE.out hM hS hz'
          case hround =>
            intro S j W' hj hS hi
            have hbb : (lowF F ⟨f, t⟩ x.v)[j]? = some (lowF F ⟨f, t⟩ x.v)[j] := List.getElem?_eq_getElem hj
            obtain ⟨bb, hbe⟩ : ∃ bb, (lowF F ⟨f, t⟩ x.v)[j] = bb := ⟨_, rfl⟩
            rw [hbe] at hbb
            clear hbe
            have hbin := low_in (mayF_rise hC.may) hC.w1 bb (List.mem_of_getElem? hbb)
            dsimp only at hbin
            obtain ⟨g1, g2, g3⟩ := hbin
            have henc : encW (lowF F ⟨f, t⟩ x.v) j = #[.agg #[.int .i64 bb.f, .int .i64 bb.t]] := by unfold encW; rw [hbb]
            rw [henc]
            obtain ⟨d1, d2⟩ := hld.1 x (List.mem_of_getElem? hx)
            obtain ⟨a1, a2⟩ := legSt_bd (F := F) (f := f) (t := t) k hld.1 hld.2.2.1
            have hlen := cutsTo_len hC (by omega) k d1 (legSt F L f t k).1 j
            obtain ⟨ah, hah⟩ : ∃ ah, (legSt F L f t k).1 = ah := ⟨_, rfl⟩
            obtain ⟨out0, hout⟩ : ∃ out0, (legSt F L f t k).2 = out0 := ⟨_, rfl⟩
            rw [hah, hout] at hi hlen
            rw [hah] at a1 a2
            rw [hah, hout]
            have HH := Lib.hid (And.intro hi (And.intro hbb (And.intro hS hlen)))
            have HZ2 := Lib.hid hz2
            clear hah hout henc hi hbb hS hlen hI hx hF hld hC HE HB HB2 HI hz2
            simp only [zip1_fold, List.setIfInBounds_toArray, List.set_cons_succ, List.set_cons_zero]
            gi_wp2
            refine ⟨Mod.of_bl (bl_alloc bl_refl), ?_⟩
            intro w3 hM hz3
            obtain ⟨hi, hbb, hS, hlen⟩ := HH.out
            have hz2 := HZ2.out
            have hzz := hi.z
            obtain ⟨v, v1, v2⟩ := hi.o
            have x3 := (hi.xb.alloc (.cells #[.int .i64 bb.f, .int .i64 bb.t] 24)).mod hM (by omega)
            have a3 := (hi.a.alloc (.cells #[.int .i64 bb.f, .int .i64 bb.t] 24)).mod hM (by omega)
            have o3 := (v1.alloc (.cells #[.int .i64 bb.f, .int .i64 bb.t] 24)).mod hM (by omega)
            have y3 := (Bx.new W' [.int .i64 bb.f, .int .i64 bb.t] 24).mod hM (by omega)
            have rd3 : RdWins w3 v (cutsTo F f t x ah out0 j) := (v2.mod (M := fun b => b = W2.heap.size + 1) ((Mod.of_bl (bl_alloc bl_refl)).trans hM) (fun b _ hn e => hn (.inl (.inr (.inr e)))) (fun b h => .inl h)).rd
            obtain ⟨A5, c5, rfl, hc5, hr5⟩ := rd3
            have hwo := slot_without A5 (cutsTo F f t x ah out0 j) c5 (badW x ah bb) w3 (by omega) hc5 hr5
            unfold badW at hwo
            dsimp only at hwo
            have e0 := x3.cell 0 rfl
            obtain ⟨e1, e2, e3⟩ := a3.one
            obtain ⟨e4, e5, e6⟩ := o3.one
            have e7 := y3.cell 0 rfl
            have e8 := y3.cell 1 rfl
            have HN := Lib.hid (And.intro hM (And.intro o3 hzz))
            clear hi hbb hS hlen v1 v2 x3 a3 o3 y3 hc5 hr5 hM hz3 hzz hz2
            gi_wp2_with (refine ⟨trivial, ?_⟩; refine (CallsIn.inRound _ (callsIn_wide.2 hwo)).mono ?_; clear hwo; rintro e w4 ⟨⟨v4, rfl, ho4⟩, hb4⟩; obtain ⟨A6, c6, rfl⟩ := ho4.form; obtain ⟨q4, q5, q6⟩ := (HN.out.2.1.bl hb4).one)
            obtain ⟨hi, hbb, hS, hlen⟩ := HH.out
            obtain ⟨hM, o3, hzz⟩ := HN.out
            have hz2 := HZ2.out
            exact ⟨hi.next hbb hM hS hb4 ho4 (by omega) (by omega) (by omega) (by omega), (Mod.of_bl hb4).setC (.inl rfl)⟩
          case hdone =>
            intro S W' hS hi hD
            obtain ⟨d1, d2⟩ := hld.1 x (List.mem_of_getElem? hx)
            obtain ⟨a1, a2⟩ := legSt_bd (F := F) (f := f) (t := t) k hld.1 hld.2.2.1
            have hst := legSt_succ (F := F) (f := f) (t := t) hx
            obtain ⟨ah, hah⟩ : ∃ ah, (legSt F L f t k).1 = ah := ⟨_, rfl⟩
            rw [hah] at hi a1 a2 hst
            have x3 := hi.xb.cell 0 rfl
            obtain ⟨e1, e2, e3⟩ := hi.a.one
            have HH := Lib.hid (And.intro hi (And.intro hst (And.intro hD (And.intro hzo hz))))
            have HZ2 := Lib.hid hz2
            clear hah hi hst hS hD hI hx hF hld hC HE HB HB2 HI hzo hz2
            gi_wp2
            refine ⟨?_, ?measure⟩
            · obtain ⟨hi, hst, hD, hzo, hz⟩ := HH.out
              have hz2 := HZ2.out
              have hrel : k + 1 ≤ L.length ∧ Value.int .i64 ((k : Int) + 1) = .int .i64 ((k + 1 : Nat) : Int) ∧ BegInv w (W'.setCell ⟨bo + 1, 0, none⟩ (.int .i64 (ah + x.d))) bo F L f t (k + 1) ({ target := .collected W2.heap.size, args := #[] } :: ds) :=
                ⟨by omega, by go_num, hi.leg hst hD hzo (by omega)⟩
              refine ⟨k + 1, ?_⟩
              repeat apply Exists.intro
              exact ⟨hrel, rfl⟩
            case measure => simp [intOf]; omega
          case hstop => exact fun _ _ _ _ _ h _ => h.elim
        · obtain rfl : k = L.length := by omega
          obtain ⟨v, v1, v2⟩ := hI.o
          rw [HO.out] at v2
          obtain ⟨A5, c5, rfl, h5⟩ := v2.rd
          obtain ⟨e1, e2, e3⟩ := v1.one
          have HH := Lib.hid (And.intro hI h5)
          clear v1 v2 hI h5 HB HB2 HO
          by_cases h0 : out.length = 0
          · have e4 : ((out.length : Int) == 0) = true := by rw [h0]; rfl
            have H0 := Lib.hid h0
            clear h0
            gi_wp2
            refine leaves_marks ds W HH.out.1.ds fun W' hW' => ?_
            have hlo := HH.out.1.lo
            refine ⟨.tuple #[.slice none 0 0, .int .i64 0], by simp [results, Try.results9, go_sem], ⟨_, rfl, ?_⟩, hlo.trans (hW'.below hlo.size fun b hb => HH.out.1.ds.lo hb)⟩
            rw [List.eq_nil_of_length_eq_zero H0.out]
            exact RdWins.nil
          · have e4 : ((out.length : Int) == 0) = false := by rw [beq_eq_false_iff_ne]; omega
            clear h0
            gi_wp2
            refine leaves_marks ds W HH.out.1.ds fun W' hW' => ?_
            have hlo := HH.out.1.lo
            exact ⟨.tuple #[.slice A5 out.length c5, .int .i64 0], by simp [results, Try.results9, go_sem], ⟨_, rfl, RdWins.marks ⟨_, _, rfl, HH.out.2⟩ HH.out.1.ds hW'⟩, hlo.trans (hW'.below hlo.size fun b hb => HH.out.1.ds.lo hb)⟩
  · have hr : beginsF F ⟨f, t⟩ L = ([], (checkF F ⟨f, t⟩ L).2) := by
      unfold beginsF
      rw [if_pos he]
    rw [hr]
    obtain ⟨r, hr'⟩ : ∃ r, checkF F ⟨f, t⟩ L = r := ⟨_, rfl⟩
    rw [hr'] at he hck ⊢
    have e1 : (r.2 == 0) = false := by simpa using he
    have e2 : (r.2 != 0) = true := by simpa using he
    clear hr hr' hF hL b0 he
    gi_wp2_with (refine ⟨trivial, ?_⟩; gi_at_call 27; refine (callsIn_wide.2 hck).mono ?_; clear hck; rintro e w1 ⟨rfl, hb1⟩)
    refine ⟨.tuple #[.slice none 0 0, .int .i64 r.2], by simp [results, Try.results9, go_sem], ⟨_, rfl, RdWins.nil⟩, bl_trans (bl_alloc bl_refl) hb1⟩

end Go.Proofs.Ytdbogephaddbjaa
