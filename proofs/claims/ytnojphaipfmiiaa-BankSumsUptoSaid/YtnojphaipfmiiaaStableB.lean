/- The contract of slices.symMergeCmpFunc: two sorted runs become one. Fewer than 2^62 elements; cmp a strict weak order. -/
import Derived.Test.YtnojphaipfmiiaaStableA
import Derived.Deep.DeepCutAuto
import Derived.Deep.CutBlock
namespace Go.Proofs.Ytnojphaipfmiiaa
open Go.Proofs Go.Shelf Go.RowKit Go.Lib Go.Sort
set_option linter.unusedVariables false
set_option linter.unusedSimpArgs false
variable {P : Program} {α : Type} [Inhabited α]
set_option maxHeartbeats 16000000 in
set_option maxRecDepth 1000000 in
/-- symMergeCmpFunc: two sorted runs become one. -/
theorem symMerge_any {k : Nat} (L : SortL P k) (F66 : P.funcs[66]? = some Try.f66) (F60 : P.funcs[60]? = some Try.f60) (F : P.funcs[49]? = some Try.f49) (enc : α → List Value) (cf : α → α → Int) (hO : SWO (ltOf cf)) (g : Nat) (cb : Array Value) (blk off cap : Nat) (d0 : Array α) (w0 : World)
    (eg : ∀ args w, (callFunc g args).run P w = .ok (.enter g args) w) (hcmp : CmpLays P g cb enc k cf blk off d0.size w0)
    (R : RowK enc k w0 blk off d0) (hsz : d0.size < 4611686018427387904) :
    ∀ (N a m b : Nat) (d : Array α) (w : World), b - a ≤ N → d0.size = d.size → SWK enc k w0 blk off d w → a < m → m < b → b ≤ d.size → SortedIn (ltOf cf) a m d → SortedIn (ltOf cf) m b d →
    Calls P 49 #[.slice (some ⟨blk, off, none⟩) d.size cap, .int .i64 a, .int .i64 m, .int .i64 b, .func (.func g) #[] cb] w fun e w' =>
      e = .returned (.tuple #[]) ∧ ∃ d' : Array α, d'.size = d.size ∧ PermIn a b d d' ∧ SortedIn (ltOf cf) a b d' ∧ SWK enc k w0 blk off d' w' := by
  intro N
  induction N with
  | zero => intro a m b d w h1 h2 h3 h4 h5; omega
  | succ N ih =>
    intro a m b d w hN hs S ham hmb hb hs1 hs2
    by_cases c1 : m = a + 1
    · exact symMerge_one L F enc cf hO g cb blk off cap a m b d0 d w0 w eg hcmp R hs S c1 hmb hb (by omega) hs2
    by_cases c2 : b = m + 1
    · exact symMerge_last L F enc cf hO g cb blk off cap a m b d0 d w0 w eg hcmp R hs S (by omega) c2 hb (by omega) hs1
    have mixed := L.mixed; have t0 := L.t0; have a0 := L.a0; have z0 := L.z0; have v0 := L.v0; have t3 := L.t3; have a3 := L.a3; have z3 := L.z3; have v3 := L.v3; have t4 := L.t4; have a4 := L.a4; have z4 := L.z4; have v4 := L.v4; have t28 := L.t28; have a28 := L.a28; have z28 := L.z28; have v28 := L.v28; have t89 := L.t89; have a89 := L.a89; have z89 := L.z89; have v89 := L.v89; have t101 := L.t101; have aE := L.aE; have zE := L.zE
    have e60 : ∀ args w, (callFunc 60 args).run P w = .ok (.enter 60 args) w := enters_of F60 (by kernel_rfl) rfl
    have e49 : ∀ args w, (callFunc 49 args).run P w = .ok (.enter 49 args) w := enters_of F (by kernel_rfl) rfl
    have S0 := Go.Lib.hid S
    have HC := Go.Lib.hid hcmp
    have HS1 := Go.Lib.hid hs1
    have HS2 := Go.Lib.hid hs2
    have IH := Go.Lib.hid ih
    have ROT : Hid (∀ (x y z : Nat) (wr : World), SWK enc k w0 blk off d wr → x < y → y < z → z ≤ d.size → Calls P 60 #[.slice (some ⟨blk, off, none⟩) d.size cap, .int .i64 x, .int .i64 y, .int .i64 z, .func (.func g) #[] cb] wr fun e w' =>
      e = .returned (.tuple #[]) ∧ ∃ d' : Array α, d'.size = d.size ∧ (∀ q, d'[q]! = rotf (fun q => d[q]!) x y z q) ∧ PermIn x z d d' ∧ SWK enc k w0 blk off d' w') := fun x y z wr h1 h2 h3 h4 =>
      rotate_any L F66 F60 enc g cb blk off cap x y z d0 d w0 wr R hs h1 h2 h3 h4 (by omega)
    have hsz' : d.size < 4611686018427387904 := by omega
    have hb1 : ((m : Int) - (a : Int) == 1) = false := by rw [beq_eq_false_iff_ne]; omega
    have hb2 : ((b : Int) - (m : Int) == 1) = false := by rw [beq_eq_false_iff_ne]; omega
    clear S hcmp hs1 hs2 ih F66
    go_enter F, Try.ntmps49
    go_upto_if 140 with (fail)
    obtain ⟨mid, hmid, hm1, hm2⟩ : ∃ mid : Nat, ((a : Int) + (b : Int)) / 2 = (mid : Int) ∧ 2 * mid ≤ a + b ∧ a + b ≤ 2 * mid + 1 := ⟨(a + b) / 2, by omega, by omega, by omega⟩
    rw [hmid]
    clear hmid
    go_cut [20, 21] (fun s20 s21 wx => ∃ s0 r0 : Nat, s20 = .int .i64 s0 ∧ s21 = .int .i64 r0 ∧ a ≤ s0 ∧ s0 ≤ r0 ∧ r0 ≤ m ∧ r0 ≤ mid ∧ mid + m ≤ b + s0 ∧ Aside (SWK enc k w0 blk off d wx ∧ (s0 = a ∨ mid + m = b + s0) ∧ (r0 = m ∨ r0 = mid)))
    case first =>
      by_cases hc : mid < m
      · have hcz : (mid : Int) < (m : Int) := by omega
        go_wp2
        go_meet
        exact ⟨mid + m - b, mid, by congr 1; omega, rfl, by omega, by omega, by omega, by omega, by omega, S0.out, Or.inr (by omega), Or.inr rfl⟩
      · have hcz : ¬ (mid : Int) < (m : Int) := by omega
        go_wp2
        go_meet
        exact ⟨a, m, rfl, rfl, by omega, by omega, by omega, by omega, by omega, S0.out, Or.inl rfl, Or.inl rfl⟩
    case rest =>
      obtain ⟨s0, r0, rfl, rfl, hs0, hsr, hrm, hrd, hnb, HS⟩ := hcut
      clear S0
      go_wp2
      go_loopg [20, 21, 23] (r0 - s0) (fun kx s20 s21 _ wr => ∃ (i j : Nat), s20 = .int .i64 i ∧ s21 = .int .i64 j ∧ s0 ≤ i ∧ i ≤ j ∧ j ≤ r0 ∧ j - i ≤ kx ∧
        Aside (SWK enc k w0 blk off d wr ∧ (i = s0 ∨ ltOf cf d[mid + m - i]! d[i - 1]! = false) ∧ (j = r0 ∨ ltOf cf d[mid + m - 1 - j]! d[j]! = true)))
      case atStart => exact ⟨s0, r0, rfl, rfl, Nat.le_refl _, by omega, Nat.le_refl _, Nat.le_refl _, HS.out.1, Or.inl rfl, Or.inl rfl⟩
      case round =>
        obtain ⟨i, j, rfl, rfl, hmi, hij, hjb, hkx, HH⟩ := hrel
        by_cases hlt : i < j
        · have hltz : (i : Int) < (j : Int) := by omega
          go_wp2_with fail
          obtain ⟨h, hh, h1, h2⟩ : ∃ h : Nat, ((i : Int) + (j : Int)) / 2 = (h : Int) ∧ i ≤ h ∧ h < j := ⟨(i + j) / 2, by omega, by omega, by omega⟩
          rw [hh]
          clear hh
          obtain ⟨y, hy⟩ : ∃ y : Nat, y = mid + m - 1 - h := ⟨_, rfl⟩
          have ey : ((mid : Int) + (m : Int) - 1 - (h : Int)).toNat = y := by omega
          have py : (0 : Int) ≤ (mid : Int) + (m : Int) - 1 - (h : Int) := by omega
          have bY : (mid : Int) + (m : Int) - 1 - (h : Int) < (d.size : Int) := by omega
          have py2 : (h : Int) ≤ (mid : Int) + (m : Int) - 1 := by omega
          have ry : IntKind.i64.wrap ((mid : Int) + (m : Int) - 1 - (h : Int)) = (mid : Int) + (m : Int) - 1 - (h : Int) := by rw [IntKind.wrap_i64]; omega
          have ph : (0 : Int) ≤ (h : Int) := by omega
          have bh : (h : Int) < (d.size : Int) := by omega
          have rh : IntKind.i64.wrap (h : Int) = (h : Int) := by rw [IntKind.wrap_i64]; omega
          have eh : ((h : Int)).toNat = h := by omega
          have S1 := HH.out.1
          have lh := fun n os => S1.ld R (by omega) P h (by omega) n os
          have ly := fun n os => S1.ld R (by omega) P y (by omega) n os
          have hcg := fun n os => S1.cmp HC.out (by omega) d[y]! d[h]! n os
          have HCG := Go.Lib.hid hcg
          have SG := Go.Lib.hid (fun n os => S1.grown n os)
          have LT : Hid (ltOf cf d[y]! d[h]! = decide (cf d[y]! d[h]! < 0)) := rfl
          have HY : Hid (mid + m - (h + 1) = y ∧ mid + m - 1 - h = y) := ⟨by omega, by omega⟩
          generalize hxh : d[h]! = xh at lh HCG LT
          generalize hxy : d[y]! = xy at ly HCG LT
          have HX := Go.Lib.hid hxh
          have HX2 := Go.Lib.hid hxy
          clear hcg S1 hxh hxy hy
          by_cases hlv : cf xy xh < 0
          · go_quiet_grown (first | (go_at_fn g; refine Calls.grown_of (HCG.out _ _)))
            go_wp2
            have HS' := SG.out nq osq
            go_roundg (h - i)
            case measure => omega
            case rel => exact ⟨i, h, rfl, rfl, hmi, h1, by omega, Nat.le_refl _, HS', HH.out.2.1, Or.inr (by rw [HY.out.2, HX.out, HX2.out, LT.out]; exact decide_eq_true hlv)⟩
          · go_quiet_grown (first | (go_at_fn g; refine Calls.grown_of (HCG.out _ _)))
            go_wp2
            have HS' := SG.out nq osq
            go_roundg (j - (h + 1))
            case measure => omega
            case rel => exact ⟨h + 1, j, by go_num, rfl, by omega, by omega, hjb, Nat.le_refl _, HS', Or.inr (by rw [HY.out.1, Nat.add_sub_cancel, HX.out, HX2.out, LT.out]; exact decide_eq_false (by omega)), HH.out.2.2⟩
        · have hltz : ¬ (i : Int) < (j : Int) := by omega
          obtain rfl : i = j := by omega
          obtain ⟨t, ht, ht'⟩ : ∃ t : Nat, (mid : Int) + (m : Int) - (i : Int) = (t : Int) ∧ mid + m = i + t := ⟨mid + m - i, by omega, by omega⟩
          have HP : Hid (∀ e : Array α, (∀ x, e[x]! = rotf (fun x => d[x]!) i m t x) → Parted (ltOf cf) e a i mid t b) := fun e he => by
            refine parted hO d e a m b i t mid (by omega) (by omega) (by omega) (by omega) (by omega) HS1.out HS2.out ?_ ?_ he
            · rcases HH.out.2.1 with h | h
              · rcases HS.out.2.1 with h' | h'
                · exact Or.inl (by omega)
                · exact Or.inr (Or.inl (by omega))
              · rw [show mid + m - i = t by omega] at h
                exact Or.inr (Or.inr h)
            · rcases HH.out.2.2 with h | h
              · rcases HS.out.2.2 with h' | h'
                · exact Or.inl (by omega)
                · exact Or.inr (Or.inl (by omega))
              · rw [show mid + m - 1 - i = t - 1 by omega] at h
                exact Or.inr (Or.inr h)
          have HW := Go.Lib.hid HH.out.1
          clear HH HS HC
          go_upto_region 39 with (fail)
          clear ht
          have hq1 : a ≤ i := by omega
          have hq2 : i ≤ m := by omega
          have hq3 : i ≤ mid := by omega
          have hq4 : t ≤ b := by omega
          have hq5 : m ≤ t := by omega
          have hq6 : mid ≤ t := by omega
          -- the two recursive calls
          have REC : Hid (∀ (x y z : Nat) (dk : Array α) (wx : World), z - x ≤ N → dk.size = d.size → SWK enc k w0 blk off dk wx → x < y → y < z → z ≤ d.size → SortedIn (ltOf cf) x y dk → SortedIn (ltOf cf) y z dk →
              Calls P 49 #[.slice (some ⟨blk, off, none⟩) d.size cap, .int .i64 x, .int .i64 y, .int .i64 z, .func (.func g) #[] cb] wx fun e w' =>
              e = .returned (.tuple #[]) ∧ ∃ d' : Array α, d'.size = dk.size ∧ PermIn x z dk d' ∧ SortedIn (ltOf cf) x z d' ∧ SWK enc k w0 blk off d' w') := fun x y z dk wx g1 g2 g3 g4 g5 g6 g7 g8 => by
            rw [← g2]
            exact IH.out x y z dk wx g1 (by omega) g3 g4 g5 (by omega) g7 g8
          clear hmi hij hjb hkx hs0 hsr hrm hrd hnb IH
          by_cases hy1 : (a : Int) < (i : Int) <;> by_cases hy2 : (i : Int) < (mid : Int) <;> by_cases hy3 : (i : Int) < (m : Int) <;> by_cases hy4 : (t : Int) < (b : Int) <;> by_cases hy5 : (m : Int) < (t : Int) <;> by_cases hy6 : (mid : Int) < (t : Int)
          all_goals first | (exfalso; omega) | skip
          all_goals by_cases hR : i < m ∧ i < mid
          all_goals first | (exfalso; omega) | skip
          all_goals
            first
            | (obtain ⟨hR1, hR2⟩ := hR
               go_wp2_with fail
               refine (ROT.out i m t wr HW.out (by omega) (by omega) (by omega)).mono ?_
               rintro u1 w2 ⟨rfl, e, he1, he2, he3, he4⟩
               have HE : Hid (e.size = d.size ∧ Parted (ltOf cf) e a i mid t b ∧ PermIn a b d e ∧ SWK enc k w0 blk off e w2) := ⟨he1, HP.out e he2, permIn_mono _ _ _ _ _ _ (by omega) (by omega) hb he3, he4⟩
               clear he1 he2 he3 he4)
            | (replace hR : i = m ∨ i = mid := by omega
               obtain ⟨e, he⟩ : ∃ e, e = d := ⟨d, rfl⟩
               have HE : Hid (e.size = d.size ∧ Parted (ltOf cf) e a i mid t b ∧ PermIn a b d e ∧ SWK enc k w0 blk off e wr) := by
                 rw [he]
                 refine ⟨rfl, HP.out d (fun x => ?_), permIn_refl _ _ _, HW.out⟩
                 rcases hR with h | h
                 · rw [h, rot_left]
                 · rw [show t = m by omega, rot_right]
               clear he
               rename World => w2)
          all_goals
            clear HP HW ROT
          all_goals by_cases hR3 : a < i ∧ i < mid
          all_goals first | (exfalso; omega) | skip
          all_goals
            first
            | (obtain ⟨hR4, hR5⟩ := hR3
               go_wp2_with fail
               refine (REC.out a i mid e w2 (by omega) HE.out.1 HE.out.2.2.2 (by omega) (by omega) (by omega) HE.out.2.1.l1 HE.out.2.1.l2).mono ?_
               rintro u2 w3 ⟨rfl, f, hf1, hf2, hf3, hf4⟩
               have HF : Hid (f.size = d.size ∧ PermIn a mid e f ∧ SortedIn (ltOf cf) a mid f ∧ SWK enc k w0 blk off f w3) := ⟨by have := HE.out.1; omega, hf2, hf3, hf4⟩
               clear hf1 hf2 hf3 hf4)
            | (replace hR3 : a = i ∨ i = mid := by omega
               obtain ⟨f, hf⟩ : ∃ f, f = e := ⟨e, rfl⟩
               have HF : Hid (f.size = d.size ∧ PermIn a mid e f ∧ SortedIn (ltOf cf) a mid f ∧ SWK enc k w0 blk off f w2) := by
                 rw [hf]
                 refine ⟨HE.out.1, permIn_refl _ _ _, ?_, HE.out.2.2.2⟩
                 rcases hR3 with h | h
                 · have := HE.out.2.1.l2; rw [← h] at this; exact this
                 · have := HE.out.2.1.l1; rw [h] at this; exact this
               clear hf
               rename World => w3)
          all_goals
            have HG0 : Hid (SortedIn (ltOf cf) mid t f ∧ SortedIn (ltOf cf) t b f) := by
              have hout : ∀ x, mid ≤ x → f[x]! = e[x]! := fun x hx => HF.out.2.1.2.1 x (Or.inr hx)
              refine ⟨fun x y g1 g2 g3 => ?_, fun x y g1 g2 g3 => ?_⟩
              · rw [hout x (by omega), hout y (by omega)]; exact HE.out.2.1.r1 x y g1 g2 g3
              · rw [hout x (by omega), hout y (by omega)]; exact HE.out.2.1.r2 x y g1 g2 g3
            have HFIN : Hid (∀ (q : Array α), PermIn mid b f q → SortedIn (ltOf cf) mid b q → q.size = d.size ∧ PermIn a b d q ∧ SortedIn (ltOf cf) a b q) := fun q p1 p2 => by
              have s1 := HE.out.1
              have s2 := HF.out.1
              refine ⟨p1.1.trans HF.out.1, permIn_trans _ _ _ _ _ HE.out.2.2.1 (permIn_trans _ _ _ _ _ (permIn_mono _ _ _ _ _ _ (Nat.le_refl _) (by omega) (by omega) HF.out.2.1) (permIn_mono _ _ _ _ _ _ (by omega) (Nat.le_refl _) (by omega) p1)), ?_⟩
              exact joined e f a mid b (by omega) HF.out.2.1 q p1 HF.out.2.2.1 p2 (by omega) (by omega) HE.out.2.1.lr
            clear HE
          all_goals by_cases hR6 : i < m ∧ t < b
          all_goals first | (exfalso; omega) | skip
          all_goals
            first
            | (obtain ⟨hR7, hR8⟩ := hR6
               go_wp2_with fail
               refine (REC.out mid t b f w3 (by omega) HF.out.1 HF.out.2.2.2 (by omega) (by omega) (by omega) HG0.out.1 HG0.out.2).mono ?_
               rintro u3 w4 ⟨rfl, q, hg1, hg2, hg3, hg4⟩
               have HQ := Go.Lib.hid (HFIN.out q hg2 hg3)
               have HQ4 := Go.Lib.hid hg4
               clear hg1 hg2 hg3 hg4 HF HG0 HFIN
               go_wp2
               go_end0
               exact ⟨rfl, q, HQ.out.1, HQ.out.2.1, HQ.out.2.2, HQ4.out⟩)
            | (replace hR6 : i = m ∨ t = b := by omega
               have HQ := Go.Lib.hid (HFIN.out f (permIn_refl _ _ _) (by
                 rcases hR6 with h | h
                 · have := HG0.out.2; rw [show t = mid by omega] at this; exact this
                 · have := HG0.out.1; rw [h] at this; exact this))
               clear HG0 HFIN
               go_wp2
               go_end0
               exact ⟨rfl, f, HQ.out.1, HQ.out.2.1, HQ.out.2.2, HF.out.2.2.2⟩)
end Go.Proofs.Ytnojphaipfmiiaa
