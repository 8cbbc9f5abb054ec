/- liverylaw16.SlotMore is true of every input. -/
import Derived.Test.YtdbogephaddbjaaLawH
import Derived.Test.YtdbogephaddbjaaCalcD
import Derived.BigRegion
import Derived.Deep.Cut
import Derived.Tactics
import Derived.Tactics2
import Derived.WalkKit
import Derived.LoopTactic
import Derived.WalkLawsBesides
import Derived.WalkSpells
import Derived.Outline
import Derived.Deep.QuietTactic
import Derived.BigQuiet
import Derived.Deep.DeepCutAuto
import Derived.Deep.LoopGhost
import Derived.Deep.RegionHeld3
import Derived.RegionTactic
import Derived.KernelRfl
import Derived.Lib.Hide
set_option linter.unusedVariables false
set_option linter.unusedSimpArgs false
namespace Go.Proofs.Ytdbogephaddbjaa
open Go.RowKit
attribute [local go_sem] Oper.semAt_some

theorem foldSt_len' (l : List Seg) (k : Nat) : (foldSt l k).2.length ≤ k := foldSt_len l k
theorem madeF_len (φ : Vec → Vec → Vec × Int) (F G : List Seg) : (madeF φ F G).1.length ≤ F.length + G.length := by
  unfold madeF
  split
  · split
    · unfold ofF
      split
      · show (foldedF (rawF φ (bothF F G))).length ≤ _
        unfold foldedF
        have h1 := foldSt_len (isort ltA (rawF φ (bothF F G))) (rawF φ (bothF F G)).length
        have h2 : (rawF φ (bothF F G)).length = (bothF F G).length := by simp [rawF]
        have h3 := bothL_len (F.length + G.length) ⟨⟨0, 0⟩, ⟨0, 0⟩, F, G⟩
        unfold bothF at h2
        unfold bothF
        unfold bothF at h1
        omega
      · simp
    · simp
  · simp

theorem legs_take {w : World} {B : Nat} {A : Option Addr} {L : List Leg} (n : Nat) (h : Legs w B A L) : Legs w B A (L.take n) := fun hn => by
  obtain ⟨b, off, e, hb, hc⟩ := h fun e => by subst e; simp at hn
  refine ⟨b, off, e, hb, fun i x hx j u hu => hc i x ?_ j u hu⟩
  rw [List.getElem?_take] at hx
  split at hx
  · exact hx
  · cases hx
theorem info_leg : (Try.prog.info? 53).map (fun i => (i.zero, i.size, i.bytes)) = some (some (.agg #[.int .i64 0, .int .i64 0, .int .i64 0]), 3, 24) := by kernel_rfl
theorem init_leg (A : Option Addr) (n c k : Nat) (h : k ≤ n) (hc : n ≤ c) : ∀ w, (Instr.slice 25 (.slice A n c) none (some (.int .i64 k)) none).run Try.prog w = .ok (.slice A k c) w := by
  intro w
  obtain ⟨i0, hi, hz0, hz1, hz2⟩ := info_parts info_leg
  have h1 : ¬ ((c : Int) < k) := by omega
  have h2 : ¬ ((k : Int) < 0) := by omega
  have h3 : ¬ c < k := by omega
  simp [h1, h2, h3, Instr.slice, Instr.sliceBounds, Instr.sliceBound, asIntOf, run_underlying Try.underlying25, sizeOf, typeInfo, hi, hz1, go_sem]

/-- What SlotMore keeps: its window's box, its row's box. -/
structure MoreEnv (w W : World) (bw br : Nat) (A2 : Option Addr) (n c2 : Nat) (f t b0 b1 : Int) : Prop where
  lo : Below w.heap.size w W
  x : Bx W bw [.int .i64 f, .int .i64 t]
  r : Bx W br [.int .i64 f, .int .i64 t, .slice A2 n c2, .int .u8 b0, .int .u8 b1]
theorem MoreEnv.bl {w W W' : World} {bw br : Nat} {A2 : Option Addr} {n c2 : Nat} {f t b0 b1 : Int} (h : MoreEnv w W bw br A2 n c2 f t b0 b1) (hb : Below W.heap.size W W') : MoreEnv w W' bw br A2 n c2 f t b0 b1 :=
  ⟨h.lo.trans (hb.mono h.lo.size), h.x.bl hb, h.r.bl hb⟩

set_option maxRecDepth 100000 in
set_option maxHeartbeats 4000000 in
theorem law_more (A A1 A2 : Option Addr) (F G : List Seg) (L : List Leg) (c c1 c2 : Nat) (f t b0 b1 : Int) (w : World) (hF : Segs w w.heap.size A F) (hG : Segs w w.heap.size A1 G) (hL : Legs w w.heap.size A2 L)
    (hcF : F.length ≤ c) (hcG : G.length ≤ c1) (hcL : L.length ≤ c2) (hf : -9223372036854775808 ≤ f ∧ f ≤ 9223372036854775807) (ht : -9223372036854775808 ≤ t ∧ t ≤ 9223372036854775807) (hb0 : 0 ≤ b0 ∧ b0 ≤ 255) (hb1 : 0 ≤ b1 ∧ b1 ≤ 255) :
    Calls Try.prog 3 #[.slice A F.length c, .slice A1 G.length c1, .agg #[.int .i64 f, .int .i64 t, .slice A2 L.length c2, .int .u8 b0, .int .u8 b1]] w fun e w' => e = .returned (.bool true) ∧ Below w.heap.size w w' := by
  have HR := Lib.hid (And.intro hF (And.intro hG (And.intro hL (And.intro hcF (And.intro hcG hcL)))))
  clear hF hG hL hcF hcG hcL
  go_enter Try.func3, Try.ntmps3
  go_wp2
  go_region
  go_upto_region 2 with fail
  refine wp_forget (fun W => MoreEnv w W (w.heap.size + 1) w.heap.size A2 L.length c2 f t b0 b1) ?_ ?_
  · have y := Bx.new (w.alloc (.cells #[.int .i64 f, .int .i64 t, .slice A2 L.length c2, .int .u8 b0, .int .u8 b1] 28)) [.int .i64 f, .int .i64 t] 24
    rw [World.size_alloc] at y
    exact ⟨by (repeat (first | exact bl_refl | assumption | apply bl_alloc | apply bl_drew | apply bl_drewN | (apply bl_set; (case hp => first | (simp; done) | (simp; omega))) | (apply bl_trans2; (case k => assumption)))), y.drew, (((Bx.new w [.int .i64 f, .int .i64 t, .slice A2 L.length c2, .int .u8 b0, .int .u8 b1] 28).alloc _).drew)⟩
  intro W hE
  obtain ⟨k1, k2, k3, k4, k5⟩ := hE.x.two
  have HE := Lib.hid hE
  clear hE
  have cg := law_great A A2 F.length L.length c c2 f t W
  cases hg : greatB F.length L.length f t with
  | true =>
    rw [hg] at cg
    clear hg
    go_wp2_with (first
      | (go_at_call 7; refine cg.mono ?_; clear cg; rintro e w1 ⟨rfl, hb1⟩)
      | (go_at_call 8; refine (law_head _).mono ?_; rintro e w2 ⟨rfl, hb2⟩))
    go_ret
    exact ⟨rfl, HE.out.lo.trans ((bl_trans hb1 hb2).mono HE.out.lo.size)⟩
  | false =>
    rw [hg] at cg
    by_cases hG60 : 60 < G.length
    · have e60 : (60 : Int) < G.length := by omega
      clear hg hG60
      go_wp2_with (first
        | (go_at_call 7; refine cg.mono ?_; clear cg; rintro e w1 ⟨rfl, hb1⟩)
        | (go_at_call 8; refine (law_head _).mono ?_; rintro e w2 ⟨rfl, hb2⟩))
      go_ret
      exact ⟨rfl, HE.out.lo.trans ((bl_trans hb1 hb2).mono HE.out.lo.size)⟩
    · have e60 : ¬ (60 : Int) < G.length := by omega
      have hF60 : F.length ≤ 60 := by unfold greatB at hg; simp at hg; omega
      have hL30 : L.length ≤ 30 := by unfold greatB at hg; simp at hg; omega
      have cb := fun (W' : World) (hW : Below W.heap.size W W') => slot_begins A A2 F L c c2 f t W' (by omega) (by omega) (HR.out.1.bl (HE.out.lo.trans (hW.mono HE.out.lo.size))) (HR.out.2.2.1.bl (HE.out.lo.trans (hW.mono HE.out.lo.size))) hf ht
      clear hg
      by_cases he : (beginsF F ⟨f, t⟩ L).2 = 0
      · obtain ⟨ra, hra⟩ : ∃ ra, beginsF F ⟨f, t⟩ L = ra := ⟨_, rfl⟩
        rw [hra] at cb he
        obtain ⟨a, e⟩ := ra
        dsimp only at he cb
        subst he
        have HRA := Lib.hid hra
        clear hra
        go_upto_region 7 with (first
          | (go_at_call 7; refine cg.mono ?_; clear cg; rintro e w1 ⟨rfl, hb1⟩; have k11 := bl_cell hb1 k1; have k12 := bl_cell hb1 k2)
          | (go_at_call 9; refine (cb _ hb1).mono ?_; clear cb; rintro e w2 ⟨⟨va, rfl, ha⟩, hb2⟩; obtain ⟨Aa, ca, rfl, hca, hra⟩ := ha; have RA := Lib.hid hra; clear hra hca))
        have hC := checkF_ok.1 ((beginsF_err (F := F) (w := ⟨f, t⟩) (L := L)).symm.trans (by rw [HRA.out]))
        have q1 := hC.f1
        have q2 := hC.w1
        have q3 := hC.f2
        dsimp only at q1 q2 q3
        have HC := Lib.hid hC
        refine wp_forget (fun W => MoreEnv w W (w.heap.size + 1) w.heap.size A2 L.length c2 f t b0 b1 ∧ Wins W W.heap.size Aa a) ?_ ?_
        · exact ⟨(HE.out.bl hb1).bl hb2, RA.out⟩
        clear hb1 hb2 k1 k2 k3 k4 k5 k11 k12 HE RA hC hf ht
        rintro W1 ⟨hE, hA⟩
        have k1 := hE.x.cell 0 rfl
        have k2 := hE.x.cell 1 rfl
        have k3 := hE.r.cell 3 rfl
        have k4 := hE.r.cell 4 rfl
        have HE := Lib.hid (And.intro hE hA)
        have l1 := hE.x.lt
        have l2 := hE.r.lt
        clear hE hA
        have m0 : 0 ≤ b0 % 40 ∧ b0 % 40 ≤ 39 := by omega
        have m1 : 0 ≤ b1 % 40 ∧ b1 % 40 ≤ 39 := by omega
        have cw := fun (W' : World) (hW : Below W1.heap.size W1 W') => slot_begins A A2 F L c c2 (f - b0 % 40) (t + b1 % 40) W' (by omega) (by omega) (HR.out.1.bl (HE.out.1.lo.trans (hW.mono HE.out.1.lo.size))) (HR.out.2.2.1.bl (HE.out.1.lo.trans (hW.mono HE.out.1.lo.size))) (by omega) (by omega)
        have hwd : (beginsF F ⟨f - b0 % 40, t + b1 % 40⟩ L).2 = 0 → WithinL a (beginsF F ⟨f - b0 % 40, t + b1 % 40⟩ L).1 := fun h => by
          have := within_wide (F := F) (w := ⟨f, t⟩) (w' := ⟨f - b0 % 40, t + b1 % 40⟩) (L := L) (checkF_ok.2 HC.out) ((beginsF_err ..).symm.trans h) (by dsimp only; omega) (by dsimp only; omega)
          rw [HRA.out] at this
          exact this
        have ha4 : a.length ≤ 4097 := by have := begins_len (F := F) (w := ⟨f, t⟩) (L := L); rw [HRA.out] at this; exact this
        have hb4 := begins_len (F := F) (w := ⟨f - b0 % 40, t + b1 % 40⟩) (L := L)
        obtain ⟨rb, hrb⟩ : ∃ rb, beginsF F ⟨f - b0 % 40, t + b1 % 40⟩ L = rb := ⟨_, rfl⟩
        rw [hrb] at cw hwd hb4
        obtain ⟨b, g⟩ := rb
        dsimp only at cw hwd hb4
        have HWD := Lib.hid hwd
        clear hrb hwd
        go_upto_region 9 with (go_at_call 9; refine (cw _ (bl_alloc bl_refl)).mono ?_; clear cw; rintro e w3 ⟨⟨vb, rfl, hb⟩, hb3⟩; obtain ⟨Ab, cb, rfl, hcb, hrb⟩ := hb; have RB := Lib.hid hrb; clear hrb hcb)
        go_cut [75] from 68 (fun s75 wc => s75 = .bool false ∧ MoreEnv w wc (w.heap.size + 1) w.heap.size A2 L.length c2 f t b0 b1 ∧ Wins wc wc.heap.size Aa a)
        case first =>
          have hA3 : MoreEnv w w3 (w.heap.size + 1) w.heap.size A2 L.length c2 f t b0 b1 ∧ Wins w3 w3.heap.size Aa a := ⟨HE.out.1.bl (bl_trans (bl_alloc bl_refl) hb3), HE.out.2.bl (bl_trans (bl_alloc bl_refl) hb3)⟩
          have HA3 := Lib.hid hA3
          clear hA3 hb3
          by_cases hg : g = 0
          · have cwi := law_within Aa Ab a b ca cb w3 (by omega) (by omega) HA3.out.2 RB.out
            rw [withinB_of (HWD.out hg)] at cwi
            subst hg
            go_wp2_with (go_at_call 10; refine cwi.mono ?_; clear cwi; rintro e w4 ⟨rfl, hb4⟩)
            go_meet
            case rel => exact ⟨rfl, HA3.out.1.bl hb4, HA3.out.2.bl hb4⟩
          · have e1 : (g == 0) = false := by simpa using hg
            clear hg
            go_wp2
            go_meet
            case rel => exact ⟨by first | rfl | simp [*], HA3.out⟩
        case rest =>
          obtain ⟨rfl, hE, hA⟩ := hcut
          have k1 := hE.x.cell 0 rfl
          have k2 := hE.x.cell 1 rfl
          have HE2 := Lib.hid (And.intro hE hA)
          clear hE hA HE
          have cm := calc_max A A1 F G c c1 wc (by omega) (HR.out.1.bl HE2.out.1.lo) (HR.out.2.1.bl HE2.out.1.lo) HR.out.2.2.2.1 HR.out.2.2.2.2.1
          have hml := madeF_len (fun a b => (maxV a b, 0)) F G
          have hmx := within_max (F := F) (G := G) (w := ⟨f, t⟩) (L := L) (checkF_ok.2 HC.out)
          rw [HRA.out] at hmx
          obtain ⟨rm, hrm⟩ : ∃ rm, maxF F G = rm := ⟨_, rfl⟩
          have hrm' : madeF (fun a b => (maxV a b, 0)) F G = rm := hrm
          rw [hrm'] at hml
          rw [hrm] at cm hmx
          obtain ⟨M, h⟩ := rm
          dsimp only at hml hmx
          have cb2 := fun (W' : World) (A : Option Addr) (c : Nat) (hb : Below w.heap.size w W') (hS : Segs W' W'.heap.size A M) => slot_begins A A2 M L c c2 f t W' (by omega) (by omega) hS (HR.out.2.2.1.bl hb) (by omega) (by omega)
          have hm4 := begins_len (F := M) (w := ⟨f, t⟩) (L := L)
          have hbe := beginsF_err (F := M) (w := ⟨f, t⟩) (L := L)
          obtain ⟨rn, hrn⟩ : ∃ rn, beginsF M ⟨f, t⟩ L = rn := ⟨_, rfl⟩
          rw [hrn] at cb2 hm4 hmx hbe
          obtain ⟨cc, i⟩ := rn
          dsimp only at cb2 hm4 hmx hbe
          rw [← hbe] at hmx
          have HMX := Lib.hid hmx
          have CB2 := Lib.hid cb2
          clear hrm hrm' hml hrn hbe hmx cb2
          go_upto_region 13 with (first
            | (go_at_call 11; refine cm.mono ?_; clear cm; rintro e w4 ⟨⟨vm, rfl, hown⟩, hb4⟩; obtain ⟨Am, cm, rfl⟩ := hown.form; have hw4 := HE2.out.1.bl hb4; have k11 := bl_cell hb4 k1; have k12 := bl_cell hb4 k2; have c2 := CB2.out w4 Am cm hw4.lo hown.rows; clear hown hw4)
            | (go_at_call 9; refine c2.mono ?_; clear c2; rintro e w5 ⟨⟨vc, rfl, hc⟩, hb5⟩; obtain ⟨Ac, cc', rfl, hcc, hrc⟩ := hc; have RC := Lib.hid hrc; clear hrc hcc))
          go_cut [100] from 89 (fun s100 wc => s100 = .bool false ∧ MoreEnv w wc (w.heap.size + 1) w.heap.size A2 L.length c2 f t b0 b1 ∧ Wins wc wc.heap.size Aa a)
          case first =>
            have HA5 := Lib.hid (And.intro (HE2.out.1.bl (bl_trans hb4 hb5)) (HE2.out.2.bl (bl_trans hb4 hb5)))
            clear hb4 hb5 k1 k2 k11 k12
            by_cases hh : h = 0
            · obtain ⟨hi, hwi⟩ := HMX.out hh
              have cwi := law_within Aa Ac a cc ca cc' w5 (by omega) (by omega) HA5.out.2 RC.out
              rw [withinB_of hwi] at cwi
              subst hh
              subst hi
              clear hwi
              go_wp2_with (go_at_call 10; refine cwi.mono ?_; clear cwi; rintro e w6 ⟨rfl, hb6⟩)
              go_meet
              case rel => exact ⟨rfl, HA5.out.1.bl hb6, HA5.out.2.bl hb6⟩
            · have e1 : (h == 0) = false := by simpa using hh
              clear hh
              go_wp2
              go_meet
              case rel => exact ⟨by first | rfl | simp [*], HA5.out⟩
          case rest =>
            obtain ⟨rfl, hE, hA⟩ := hcut
            have k1 := hE.x.cell 0 rfl
            have k2 := hE.x.cell 1 rfl
            have HE3 := Lib.hid (And.intro hE hA)
            clear hE hA
            by_cases h1 : 1 < L.length
            · obtain ⟨n, hn⟩ : ∃ n, L.length = n + 1 := ⟨L.length - 1, by omega⟩
              have hLn : L ≠ [] := fun e => by rw [e] at h1; simp at h1
              have htk : (L.take n).length = n := by rw [List.length_take]; omega
              have hLs : L = L.take n ++ [L.getLast hLn] := by
                have h2 := List.dropLast_concat_getLast hLn
                rw [List.dropLast_eq_take, hn, Nat.add_sub_cancel] at h2
                exact h2.symm
              have hwi := within_init (F := F) (w := ⟨f, t⟩) (L := L.take n) (x := L.getLast hLn) (fun e => by have := congrArg List.length e; rw [htk] at this; simp at this; omega) (by rw [← hLs]; exact checkF_ok.2 HC.out)
              rw [← hLs, HRA.out, ← beginsF_err] at hwi
              have hLt : Legs wc wc.heap.size A2 (L.take n) := legs_take n (HR.out.2.2.1.bl HE3.out.1.lo)
              have cbi := fun (W' : World) (hW : Below wc.heap.size wc W') => slot_begins A A2 F (L.take n) c c2 f t W' (by omega) (by omega) (HR.out.1.bl (HE3.out.1.lo.trans (hW.mono HE3.out.1.lo.size))) (hLt.bl hW) (by omega) (by omega)
              rw [htk] at cbi
              have hd4 := begins_len (F := F) (w := ⟨f, t⟩) (L := L.take n)
              obtain ⟨rd, hrd⟩ : ∃ rd, beginsF F ⟨f, t⟩ (L.take n) = rd := ⟨_, rfl⟩
              rw [hrd] at cbi hd4 hwi
              obtain ⟨d, j⟩ := rd
              dsimp only at cbi hd4 hwi
              obtain ⟨hj, hwd⟩ := hwi
              subst hj
              have hsl := init_leg A2 L.length c2 n (by omega) (by have := HR.out.2.2.2.2.2; omega)
              have e3 : IntKind.i64.wrap ((L.length : Int) - 1) = (n : Int) := by rw [IntWalk.i64_in _ (by omega)]; omega
              have e1 : (1 : Int) < L.length := by omega
              have CBI := Lib.hid cbi
              clear hLn htk hLs hLt hrd hn cbi h1
              go_upto_region 16 with fail
              go_cut [18, 19] from 104 (fun s18 s19 w' => ∃ Ad cd, s18 = .slice Ad d.length cd ∧ s19 = .int .i64 0 ∧ Below wc.heap.size wc w' ∧ Wins w' w'.heap.size Ad d)
              case first =>
                rename_i J0 K0 hr hm
                go_region_held3 (fun W => W.cell? ⟨w.heap.size + 1, 0, none⟩ = some (.int .i64 f) ∧ W.cell? ⟨w.heap.size + 1, 1, none⟩ = some (.int .i64 t) ∧ Below wc.heap.size wc W) ((refine (fun hB' => ⟨bl_cell hB' k1, bl_cell hB' k2, hB'⟩ : Below wc.heap.size wc _ → _) ?_; (repeat (first | exact bl_refl | assumption | apply bl_alloc | apply bl_drew | apply bl_drewN | (apply bl_set; (case hp => first | (simp; done) | (simp; omega))) | (apply bl_trans2; (case k => assumption))))))
                  (first | (go_at_call 9; refine (CBI.out _ (by (repeat (first | exact bl_refl | assumption | apply bl_alloc | apply bl_drew | apply bl_drewN | (apply bl_set; (case hp => first | (simp; done) | (simp; omega))) | (apply bl_trans2; (case k => assumption)))))).mono ?_; rintro e w7 ⟨⟨vd, rfl, hd⟩, hb7⟩; obtain ⟨Ad, cd, rfl, hcd, hrd⟩ := hd; have RD := Lib.hid hrd; clear hrd hcd))
                refine hm _ _ (Met.intro (hr _ _ ?_))
                repeat apply Exists.intro
                refine ⟨?_, rfl⟩
                exact ⟨_, _, rfl, rfl, bl_trans (by (repeat (first | exact bl_refl | assumption | apply bl_alloc | apply bl_drew | apply bl_drewN | (apply bl_set; (case hp => first | (simp; done) | (simp; omega))) | (apply bl_trans2; (case k => assumption))))) hb7, RD.out⟩
              case rest =>
                obtain ⟨Ad, cd, rfl, rfl, hb7, hD⟩ := hcut
                have HA7 := Lib.hid (And.intro (HE3.out.1.bl hb7) (HE3.out.2.bl hb7))
                have cwi := law_within Aa Ad a d ca cd _ (by omega) (by omega) HA7.out.2 hD
                rw [withinB_of hwd] at cwi
                clear hwd hb7 hD
                go_wp2_with (first
                  | (go_at_call 10; refine cwi.mono ?_; clear cwi; rintro e w8 ⟨rfl, hb8⟩)
                  | (go_at_call 8; refine (law_head _).mono ?_; rintro e w9 ⟨rfl, hb9⟩))
                go_ret
                exact ⟨rfl, (HA7.out.1.bl (bl_trans hb8 hb9)).lo⟩
            · have e1 : ¬ (1 : Int) < L.length := by omega
              clear h1
              go_wp2_with (go_at_call 8; refine (law_head _).mono ?_; rintro e w7 ⟨rfl, hb7⟩)
              go_ret
              exact ⟨rfl, HE3.out.1.lo.trans (hb7.mono HE3.out.1.lo.size)⟩
      · have e1 : ((beginsF F ⟨f, t⟩ L).2 == 0) = false := by simpa using he
        have e2 : ((beginsF F ⟨f, t⟩ L).2 != 0) = true := by simpa using he
        clear he
        go_wp2_with (first
          | (go_at_call 7; refine cg.mono ?_; clear cg; rintro e w1 ⟨rfl, hb1⟩; have k11 := bl_cell hb1 k1; have k12 := bl_cell hb1 k2)
          | (go_at_call 9; refine (cb _ hb1).mono ?_; clear cb; rintro e w2 ⟨⟨va, rfl, ha⟩, hb2⟩; obtain ⟨Aa, ca, rfl, hca, hra⟩ := ha; clear hra hca)
          | (go_at_call 8; refine (law_head _).mono ?_; rintro e w3 ⟨rfl, hb3⟩))
        go_ret
        exact ⟨rfl, HE.out.lo.trans ((bl_trans hb1 (bl_trans hb2 hb3)).mono HE.out.lo.size)⟩

end Go.Proofs.Ytdbogephaddbjaa
