/- Contracts of slices.SortStableFunc's parts: exchange of ranges, rotation, a merge with a run of one element. Fewer than 2^62 elements; cmp a strict weak order. -/
import Derived.Test.YtnojphaipfmiiaaLaid
import Derived.Test.YtnojphaipfmiiaaSortPure
import Derived.Test.YtnojphaipfmiiaaBase
import Derived.Deep.DeepCutAuto
import Derived.Deep.CutBlock
namespace Go.Proofs.Ytnojphaipfmiiaa
open Go.Proofs Go.Shelf Go.RowKit Go.Lib Go.Sort
set_option linter.unusedVariables false
set_option linter.unusedSimpArgs false
variable {P : Program} {α : Type} [Inhabited α]
/-- What the walks of the stable sort ask of the program's types; k: the cells of an element. -/
structure SortL (P : Program) (k : Nat) : Prop where
  mixed : P.follows .mixedOrders = true
  t0 : P.underlying 0 = some (TypeDesc.tuple #[])
  a0 : ∀ w, (isAgg 0).run P w = .ok false w
  z0 : ∀ w, (Go.sizeOf 0).run P w = .ok 1 w
  v0 : ∀ w, (zeroValue 0).run P w = .ok (Value.tuple #[]) w
  t3 : P.underlying 3 = some (TypeDesc.int IntKind.i64)
  a3 : ∀ w, (isAgg 3).run P w = .ok false w
  z3 : ∀ w, (Go.sizeOf 3).run P w = .ok 1 w
  v3 : ∀ w, (zeroValue 3).run P w = .ok (Value.int IntKind.i64 0) w
  t4 : P.underlying 4 = some (TypeDesc.bool)
  a4 : ∀ w, (isAgg 4).run P w = .ok false w
  z4 : ∀ w, (Go.sizeOf 4).run P w = .ok 1 w
  v4 : ∀ w, (zeroValue 4).run P w = .ok (Value.bool false) w
  t28 : P.underlying 28 = some (TypeDesc.slice 52)
  a28 : ∀ w, (isAgg 28).run P w = .ok false w
  z28 : ∀ w, (Go.sizeOf 28).run P w = .ok 1 w
  v28 : ∀ w, (zeroValue 28).run P w = .ok (Value.slice none 0 0) w
  t89 : P.underlying 89 = some (TypeDesc.func #[52, 52] #[3] false)
  a89 : ∀ w, (isAgg 89).run P w = .ok false w
  z89 : ∀ w, (Go.sizeOf 89).run P w = .ok 1 w
  v89 : ∀ w, (zeroValue 89).run P w = .ok (Value.nilFunc) w
  t101 : P.underlying 101 = some (TypeDesc.int IntKind.u64)
  aE : ∀ w, (isAgg 52).run P w = .ok true w
  zE : ∀ w, (Go.sizeOf 52).run P w = .ok k w

set_option maxHeartbeats 4000000 in
set_option maxRecDepth 1000000 in
theorem swapRange_any {k : Nat} (L : SortL P k) (F : P.funcs[66]? = some Try.f66) (enc : α → List Value) (g : Nat) (cb : Array Value) (blk off cap a b n : Nat) (d0 d : Array α) (w0 w : World)
    (R : RowK enc k w0 blk off d0) (hs : d0.size = d.size) (S : SWK enc k w0 blk off d w) (hab : a + n ≤ b) (hb : b + n ≤ d.size) (hsz : d.size < 4611686018427387904) :
    Calls P 66 #[.slice (some ⟨blk, off, none⟩) d.size cap, .int .i64 a, .int .i64 b, .int .i64 n, .func (.func g) #[] cb] w fun e w' =>
      e = .returned (.tuple #[]) ∧ ∃ d' : Array α, d'.size = d.size ∧ (∀ x, d'[x]! = swf (fun x => d[x]!) a b n x) ∧ PermIn a (b + n) d d' ∧ SWK enc k w0 blk off d' w' := by
  have mixed := L.mixed; have t0 := L.t0; have a0 := L.a0; have z0 := L.z0; have v0 := L.v0; have t3 := L.t3; have a3 := L.a3; have z3 := L.z3; have v3 := L.v3; have t4 := L.t4; have a4 := L.a4; have z4 := L.z4; have v4 := L.v4; have t28 := L.t28; have a28 := L.a28; have z28 := L.z28; have v28 := L.v28; have t89 := L.t89; have a89 := L.a89; have z89 := L.z89; have v89 := L.v89; have aE := L.aE; have zE := L.zE
  have S0 : Aside (SWK enc k w0 blk off d w) := S
  clear S
  go_enter F, Try.ntmps66
  go_wp2
  go_loopg [10] n (fun kx s10 wr => ∃ (i : Nat) (dk : Array α), s10 = .int .i64 i ∧ i ≤ n ∧ n - i ≤ kx ∧ dk.size = d.size ∧ Aside (SWK enc k w0 blk off dk wr ∧ (∀ x, dk[x]! = swf (fun x => d[x]!) a b i x) ∧ PermIn a (b + n) d dk))
  case atStart => exact ⟨0, d, rfl, Nat.zero_le _, Nat.le_refl _, rfl, S0.out, fun x => by simp only [swf]; rw [if_neg (by omega), if_neg (by omega)], permIn_refl _ _ _⟩
  case round =>
    clear S0
    obtain ⟨i, dk, rfl, hin, hkx, hds, HH⟩ := hrel
    by_cases hlt : i < n
    · have hltz : (i : Int) < (n : Int) := by omega
      go_wp2_with fail
      have ra1 : IntKind.i64.wrap ((a : Int) + (i : Int)) = (a : Int) + (i : Int) := by rw [IntKind.wrap_i64]; omega
      have pa1 : (0 : Int) ≤ (a : Int) + (i : Int) := by omega
      have ba1 : (a : Int) + (i : Int) < (d.size : Int) := by omega
      have ea1 : ((a : Int) + (i : Int)).toNat = a + i := by omega
      have rb1 : IntKind.i64.wrap ((b : Int) + (i : Int)) = (b : Int) + (i : Int) := by rw [IntKind.wrap_i64]; omega
      have pb1 : (0 : Int) ≤ (b : Int) + (i : Int) := by omega
      have bb1 : (b : Int) + (i : Int) < (d.size : Int) := by omega
      have eb1 : ((b : Int) + (i : Int)).toNat = b + i := by omega
      have S1 := HH.out.1
      have S2 : Aside (SWK enc k w0 blk off (swp dk (a + i) (b + i)) ((wr.drew.setCells blk (off + (a + i) * k) (enc dk[b + i]!)).setCells blk (off + (b + i) * k) (enc dk[a + i]!))) := S1.swapped R (a + i) (b + i) (by omega) (by omega)
      have l1 := S1.ld1 R (by omega) P (a + i) (by omega)
      have l2 := S1.ld1 R (by omega) P (b + i) (by omega)
      have s1 := S1.st1 R (by omega) P (a + i) (by omega) dk[b + i]!
      have s2 := S1.st2 R (by omega) P (a + i) (b + i) (by omega) (by omega) dk[b + i]! dk[a + i]!
      have n1 : (enc dk[a + i]!).length = k := R.hk _
      have n2 : (enc dk[b + i]!).length = k := R.hk _
      have HP : Aside ((∀ x, (swp dk (a + i) (b + i))[x]! = swf (fun x => d[x]!) a b (i + 1) x) ∧ PermIn a (b + n) d (swp dk (a + i) (b + i))) := by
        refine ⟨fun x => ?_, permIn_trans _ _ _ _ _ HH.out.2.2 (swp_permIn dk a (b + n) (a + i) (b + i) (by omega) (by omega) (by omega) (by omega) (by omega))⟩
        by_cases hx1 : x = a + i
        · subst hx1
          rw [swp_left _ _ _ (by omega) (by omega), HH.out.2.1 (b + i)]
          simp only [swf]
          rw [if_neg (by omega), if_neg (by omega), if_pos (by omega)]
          congr 1; omega
        · by_cases hx2 : x = b + i
          · subst hx2
            rw [swp_right _ _ _ (by omega), HH.out.2.1 (a + i)]
            simp only [swf]
            rw [if_neg (by omega), if_neg (by omega), if_neg (by omega), if_pos (by omega)]
            congr 1; omega
          · rw [swp_other _ _ _ _ hx1 hx2, HH.out.2.1 x]
            simp only [swf]
            repeat' split
            all_goals first | rfl | (exfalso; omega)
      generalize enc dk[a + i]! = cI at S2 l1 s2 n1
      generalize enc dk[b + i]! = cJ at S2 l2 s1 s2 n2
      clear S1 HH
      go_big_region_o
      clear l1 l2 s1 s2
      generalize (wr.drew.setCells blk (off + (a + i) * k) cJ).setCells blk (off + (b + i) * k) cI = w2 at S2 ⊢
      go_wp2
      go_roundg (n - (i + 1))
      case measure => omega
      case rel => exact ⟨i + 1, swp dk (a + i) (b + i), by go_num, by omega, Nat.le_refl _, by rw [size_swp]; exact hds, S2.out, HP.out.1, HP.out.2⟩
    · have hltz : ¬ (i : Int) < (n : Int) := by omega
      obtain rfl : i = n := by omega
      go_wp2
      go_end0
      exact ⟨rfl, dk, hds, HH.out.2.1, HH.out.2.2, HH.out.1⟩
set_option maxHeartbeats 4000000 in
set_option maxRecDepth 1000000 in
theorem rotate_any {k : Nat} (L : SortL P k) (F66 : P.funcs[66]? = some Try.f66) (F : P.funcs[60]? = some Try.f60) (enc : α → List Value) (g : Nat) (cb : Array Value) (blk off cap a m b : Nat) (d0 d : Array α) (w0 w : World)
    (R : RowK enc k w0 blk off d0) (hs : d0.size = d.size) (S : SWK enc k w0 blk off d w) (ham : a < m) (hmb : m < b) (hb : b ≤ d.size) (hsz : d.size < 4611686018427387904) :
    Calls P 60 #[.slice (some ⟨blk, off, none⟩) d.size cap, .int .i64 a, .int .i64 m, .int .i64 b, .func (.func g) #[] cb] w fun e w' =>
      e = .returned (.tuple #[]) ∧ ∃ d' : Array α, d'.size = d.size ∧ (∀ x, d'[x]! = rotf (fun x => d[x]!) a m b x) ∧ PermIn a b d d' ∧ SWK enc k w0 blk off d' w' := by
  have mixed := L.mixed; have t0 := L.t0; have a0 := L.a0; have z0 := L.z0; have v0 := L.v0; have t3 := L.t3; have a3 := L.a3; have z3 := L.z3; have v3 := L.v3; have t4 := L.t4; have a4 := L.a4; have z4 := L.z4; have v4 := L.v4; have t28 := L.t28; have a28 := L.a28; have z28 := L.z28; have v28 := L.v28; have t89 := L.t89; have a89 := L.a89; have z89 := L.z89; have v89 := L.v89
  have S0 : Aside (SWK enc k w0 blk off d w) := S
  have e66 : ∀ args w, (callFunc 66 args).run P w = .ok (.enter 66 args) w := enters_of F66 (by kernel_rfl) rfl
  have HC : Aside (∀ (x y z : Nat) (dk : Array α) (wr : World), dk.size = d.size → SWK enc k w0 blk off dk wr → x + z ≤ y → y + z ≤ d.size →
      Calls P 66 #[.slice (some ⟨blk, off, none⟩) d.size cap, .int .i64 x, .int .i64 y, .int .i64 z, .func (.func g) #[] cb] wr fun e w' =>
      e = .returned (.tuple #[]) ∧ ∃ d' : Array α, d'.size = dk.size ∧ (∀ q, d'[q]! = swf (fun q => dk[q]!) x y z q) ∧ PermIn x (y + z) dk d' ∧ SWK enc k w0 blk off d' w') := fun x y z dk wr h1 h2 h3 h4 => by
    rw [← h1]
    exact swapRange_any L F66 enc g cb blk off cap x y z d0 dk w0 wr R (by omega) h2 h3 (by omega) (by omega)
  clear S L F66
  go_enter F, Try.ntmps60
  go_wp2
  go_loopg [10, 11] (m - a + (b - m)) (fun kx s10 s11 wr => ∃ (i j : Nat) (dk : Array α), s10 = .int .i64 i ∧ s11 = .int .i64 j ∧ 0 < i ∧ 0 < j ∧ i ≤ m - a ∧ j ≤ b - m ∧ i + j ≤ kx ∧ dk.size = d.size ∧
    Aside (SWK enc k w0 blk off dk wr ∧ (∀ x, rotf (fun x => dk[x]!) (m - i) m (m + j) x = rotf (fun x => d[x]!) a m b x) ∧ PermIn a b d dk))
  case atStart => exact ⟨m - a, b - m, d, by congr 1; omega, by congr 1; omega, by omega, by omega, Nat.le_refl _, Nat.le_refl _, Nat.le_refl _, rfl, S0.out, fun x => by rw [show m - (m - a) = a by omega, show m + (b - m) = b by omega], permIn_refl _ _ _⟩
  case round =>
    clear S0
    obtain ⟨i, j, dk, rfl, rfl, hi0, hj0, him, hjb, hkx, hds, HH⟩ := hrel
    have pm : PermIn a b dk dk := permIn_refl _ _ _
    clear pm
    by_cases hij : i = j
    · subst hij
      have h1 := HC.out (m - i) m i dk wr hds HH.out.1 (by omega) (by omega)
      have e1 : ((m - i : Nat) : Int) = (m : Int) - (i : Int) := by omega
      rw [e1] at h1
      have H1 := Go.Lib.hid h1
      clear h1 e1
      go_wp2_with fail
      refine H1.out.mono ?_
      rintro e w1 ⟨rfl, d', hd1, hd2, hd3, hd4⟩
      have HD : Aside (d'.size = d.size ∧ (∀ x, d'[x]! = rotf (fun x => d[x]!) a m b x) ∧ PermIn a b d d' ∧ SWK enc k w0 blk off d' w1) :=
        ⟨by omega, fun x => by rw [hd2 x, rot_last _ m i (by omega), HH.out.2.1 x], permIn_trans _ _ _ _ _ HH.out.2.2 (permIn_mono _ _ _ _ _ _ (by omega) (by omega) (by omega) hd3), hd4⟩
      clear hd1 hd2 hd3 hd4
      go_wp2
      go_end0
      exact ⟨rfl, d', HD.out⟩
    · by_cases hgt : j < i
      · have h1 := HC.out (m - i) m j dk wr hds HH.out.1 (by omega) (by omega)
        have e1 : ((m - i : Nat) : Int) = (m : Int) - (i : Int) := by omega
        rw [e1] at h1
        have H1 := Go.Lib.hid h1
        have t1 : ((i : Int) != (j : Int)) = true := bne_iff_ne.2 (by omega)
        have t2 : (j : Int) < (i : Int) := by omega
        clear h1 e1
        go_wp2_with fail
        refine H1.out.mono ?_
        rintro e w1 ⟨rfl, d', hd1, hd2, hd3, hd4⟩
        have HD : Aside (SWK enc k w0 blk off d' w1 ∧ (∀ x, rotf (fun x => d'[x]!) (m - (i - j)) m (m + j) x = rotf (fun x => d[x]!) a m b x) ∧ PermIn a b d d') := by
          refine ⟨hd4, fun x => ?_, permIn_trans _ _ _ _ _ HH.out.2.2 (permIn_mono _ _ _ _ _ _ (by omega) (by omega) (by omega) hd3)⟩
          rw [← HH.out.2.1 x, ← rot_gt _ m i j (by omega) hj0 hgt x]
          congr 1
          exact funext hd2
        have hd1' : d'.size = d.size := by omega
        clear hd1 hd2 hd3 hd4
        go_wp2
        go_roundg (i - j + j)
        case measure => omega
        case rel => exact ⟨i - j, j, d', by congr 1; omega, rfl, by omega, hj0, by omega, hjb, Nat.le_refl _, hd1', HD.out⟩
      · have h1 := HC.out (m - i) (m + j - i) i dk wr hds HH.out.1 (by omega) (by omega)
        have e1 : ((m - i : Nat) : Int) = (m : Int) - (i : Int) := by omega
        have e2 : ((m + j - i : Nat) : Int) = (m : Int) + (j : Int) - (i : Int) := by omega
        rw [e1, e2] at h1
        have H1 := Go.Lib.hid h1
        have t1 : ((i : Int) != (j : Int)) = true := bne_iff_ne.2 (by omega)
        have t2 : ¬ (j : Int) < (i : Int) := by omega
        clear h1 e1 e2
        go_wp2_with fail
        refine H1.out.mono ?_
        rintro e w1 ⟨rfl, d', hd1, hd2, hd3, hd4⟩
        have HD : Aside (SWK enc k w0 blk off d' w1 ∧ (∀ x, rotf (fun x => d'[x]!) (m - i) m (m + (j - i)) x = rotf (fun x => d[x]!) a m b x) ∧ PermIn a b d d') := by
          refine ⟨hd4, fun x => ?_, permIn_trans _ _ _ _ _ HH.out.2.2 (permIn_mono _ _ _ _ _ _ (by omega) (by omega) (by omega) hd3)⟩
          rw [← HH.out.2.1 x, ← rot_lt _ m i j (by omega) hi0 (by omega) x]
          congr 1
          exact funext hd2
        have hd1' : d'.size = d.size := by omega
        clear hd1 hd2 hd3 hd4
        go_wp2
        go_roundg (i + (j - i))
        case measure => omega
        case rel => exact ⟨i, j - i, d', rfl, by congr 1; omega, hi0, by omega, him, by omega, Nat.le_refl _, hd1', HD.out⟩
set_option maxHeartbeats 4000000 in
set_option maxRecDepth 1000000 in
/-- symMergeCmpFunc where the left run has one element. -/
theorem symMerge_one {k : Nat} (L : SortL P k) (F : P.funcs[49]? = some Try.f49) (enc : α → List Value) (cf : α → α → Int) (hO : SWO (ltOf cf)) (g : Nat) (cb : Array Value) (blk off cap a m b : Nat) (d0 d : Array α) (w0 w : World)
    (eg : ∀ args w, (callFunc g args).run P w = .ok (.enter g args) w) (hcmp : CmpLays P g cb enc k cf blk off d0.size w0)
    (R : RowK enc k w0 blk off d0) (hs : d0.size = d.size) (S : SWK enc k w0 blk off d w) (ham : m = a + 1) (hmb : m < b) (hb : b ≤ d.size) (hsz : d.size < 4611686018427387904) (hs2 : SortedIn (ltOf cf) m b d) :
    Calls P 49 #[.slice (some ⟨blk, off, none⟩) d.size cap, .int .i64 a, .int .i64 m, .int .i64 b, .func (.func g) #[] cb] w fun e w' =>
      e = .returned (.tuple #[]) ∧ ∃ d' : Array α, d'.size = d.size ∧ PermIn a b d d' ∧ SortedIn (ltOf cf) a b d' ∧ SWK enc k w0 blk off d' w' := by
  have mixed := L.mixed; have t0 := L.t0; have a0 := L.a0; have z0 := L.z0; have v0 := L.v0; have t3 := L.t3; have a3 := L.a3; have z3 := L.z3; have v3 := L.v3; have t4 := L.t4; have a4 := L.a4; have z4 := L.z4; have v4 := L.v4; have t28 := L.t28; have a28 := L.a28; have z28 := L.z28; have v28 := L.v28; have t89 := L.t89; have a89 := L.a89; have z89 := L.z89; have v89 := L.v89; have t101 := L.t101; have aE := L.aE; have zE := L.zE
  have S0 := Go.Lib.hid S
  have HC := Go.Lib.hid hcmp
  have HSO := Go.Lib.hid hs2
  have hb1 : ((m : Int) - (a : Int) == 1) = true := by rw [beq_iff_eq]; omega
  have HM := Go.Lib.hid ham
  have halt : a < m := by omega
  clear S hcmp hs2 ham
  go_enter F, Try.ntmps49
  go_wp2
  go_loopg [10, 11, 12] (b - m) (fun kx s10 s11 _ wr => ∃ (i j : Nat), s10 = .int .i64 i ∧ s11 = .int .i64 j ∧ m ≤ i ∧ i ≤ j ∧ j ≤ b ∧ j - i ≤ kx ∧
    Aside (SWK enc k w0 blk off d wr ∧ (i = a + 1 ∨ ltOf cf d[i - 1]! d[a]! = true) ∧ (j = b ∨ ltOf cf d[j]! d[a]! = false)))
  case atStart => exact ⟨m, b, rfl, rfl, Nat.le_refl _, by omega, Nat.le_refl _, Nat.le_refl _, S0.out, Or.inl HM.out, Or.inl rfl⟩
  case round =>
    clear S0
    obtain ⟨i, j, rfl, rfl, hmi, hij, hjb, hkx, HH⟩ := hrel
    by_cases hlt : i < j
    · have hltz : (i : Int) < (j : Int) := by omega
      go_wp2_with fail
      obtain ⟨h, hh, h1, h2⟩ : ∃ h : Nat, ((i : Int) + (j : Int)) / 2 = (h : Int) ∧ i ≤ h ∧ h < j := ⟨(i + j) / 2, by omega, by omega, by omega⟩
      rw [hh]
      clear hh
      have ph : (0 : Int) ≤ (h : Int) := by omega
      have bh : (h : Int) < (d.size : Int) := by omega
      have pa : (0 : Int) ≤ (a : Int) := by omega
      have ba : (a : Int) < (d.size : Int) := by omega
      have rh : IntKind.i64.wrap (h : Int) = (h : Int) := by rw [IntKind.wrap_i64]; omega
      have ra : IntKind.i64.wrap (a : Int) = (a : Int) := by rw [IntKind.wrap_i64]; omega
      have eh : ((h : Int)).toNat = h := by omega
      have ea : ((a : Int)).toNat = a := by omega
      have S1 := HH.out.1
      have lh := fun n os => S1.ld R (by omega) P h (by omega) n os
      have la := fun n os => S1.ld R (by omega) P a (by omega) n os
      have hcg := fun n os => S1.cmp HC.out (by omega) d[h]! d[a]! n os
      have HCG := Go.Lib.hid hcg
      have SG := Go.Lib.hid (fun n os => S1.grown n os)
      have LT : Hid (ltOf cf d[h]! d[a]! = decide (cf d[h]! d[a]! < 0)) := rfl
      generalize hxh : d[h]! = xh at lh HCG LT
      generalize hxa : d[a]! = xa at la HCG LT
      have HX := Go.Lib.hid hxh
      have HX2 := Go.Lib.hid hxa
      clear hcg S1 hxh hxa
      by_cases hlv : cf xh xa < 0
      · go_quiet_grown (first | (go_at_fn g; refine Calls.grown_of (HCG.out _ _)))
        go_wp2
        have HS := SG.out nq osq
        go_roundg (j - (h + 1))
        case measure => omega
        case rel => exact ⟨h + 1, j, by go_num, rfl, by omega, by omega, hjb, Nat.le_refl _, HS, Or.inr (by rw [Nat.add_sub_cancel, HX.out, HX2.out, LT.out]; exact decide_eq_true hlv), HH.out.2.2⟩
      · go_quiet_grown (first | (go_at_fn g; refine Calls.grown_of (HCG.out _ _)))
        go_wp2
        have HS := SG.out nq osq
        go_roundg (h - i)
        case measure => omega
        case rel => exact ⟨i, h, rfl, rfl, hmi, h1, by omega, Nat.le_refl _, HS, HH.out.2.1, Or.inr (by rw [HX.out, HX2.out, LT.out]; exact decide_eq_false (by omega))⟩
    · have hltz : ¬ (i : Int) < (j : Int) := by omega
      obtain rfl : i = j := by omega
      have HD : Aside ((∀ x, d[x]! = insf (fun x => d[x]!) a a x) ∧ PermIn a b d d) := ⟨fun x => by simp only [insf]; repeat' split <;> first | rfl | (exfalso; omega) | (congr 1), permIn_refl _ _ _⟩
      go_wp2
      go_loopg [13] (i - 1 - a) (fun kx s13 wr2 => ∃ (q : Nat) (dk : Array α), s13 = .int .i64 q ∧ a ≤ q ∧ q ≤ i - 1 ∧ i - 1 - q ≤ kx ∧ dk.size = d.size ∧ Aside (SWK enc k w0 blk off dk wr2 ∧ (∀ x, dk[x]! = insf (fun x => d[x]!) a q x) ∧ PermIn a b d dk))
      case atStart => exact ⟨a, d, rfl, Nat.le_refl _, by omega, Nat.le_refl _, rfl, HH.out.1, HD.out.1, HD.out.2⟩
      case round =>
        clear HD
        obtain ⟨q, dk, rfl, haq, hqi, hkx2, hds, HK⟩ := hrel
        by_cases hq : q < i - 1
        · have hqz : (q : Int) < (i : Int) - 1 := by omega
          go_wp2_with fail
          have r1 : IntKind.i64.wrap ((q : Int) + 1) = (q : Int) + 1 := by rw [IntKind.wrap_i64]; omega
          have r0 : IntKind.i64.wrap (q : Int) = (q : Int) := by rw [IntKind.wrap_i64]; omega
          have p1 : (0 : Int) ≤ (q : Int) + 1 := by omega
          have b1 : (q : Int) + 1 < (d.size : Int) := by omega
          have e1 : ((q : Int) + 1).toNat = q + 1 := by omega
          have p0 : (0 : Int) ≤ (q : Int) := by omega
          have b0 : (q : Int) < (d.size : Int) := by omega
          have e0 : ((q : Int)).toNat = q := by omega
          have S1 := HK.out.1
          have S2 : Aside (SWK enc k w0 blk off (swp dk q (q + 1)) ((wr.drew.setCells blk (off + q * k) (enc dk[q + 1]!)).setCells blk (off + (q + 1) * k) (enc dk[q]!))) := S1.swapped R q (q + 1) (by omega) (by omega)
          have l1 := S1.ld1 R (by omega) P q (by omega)
          have l2 := S1.ld1 R (by omega) P (q + 1) (by omega)
          have s1 := S1.st1 R (by omega) P q (by omega) dk[q + 1]!
          have s2 := S1.st2 R (by omega) P q (q + 1) (by omega) (by omega) dk[q + 1]! dk[q]!
          have n1 : (enc dk[q]!).length = k := R.hk _
          have n2 : (enc dk[q + 1]!).length = k := R.hk _
          have HP : Aside ((∀ x, (swp dk q (q + 1))[x]! = insf (fun x => d[x]!) a (q + 1) x) ∧ PermIn a b d (swp dk q (q + 1))) := by
            refine ⟨fun x => ?_, permIn_trans _ _ _ _ _ HK.out.2.2 (swp_permIn dk a b q (q + 1) (by omega) (by omega) (by omega) (by omega) (by omega))⟩
            by_cases hx1 : x = q
            · subst hx1
              rw [swp_left _ _ _ (by omega) (by omega), HK.out.2.1 (x + 1)]
              simp only [insf]
              rw [if_neg (by omega), if_neg (by omega), if_pos (by omega)]
            · by_cases hx2 : x = q + 1
              · subst hx2
                rw [swp_right _ _ _ (by omega), HK.out.2.1 q]
                simp only [insf, Nat.lt_irrefl, and_false, if_false, if_true]
              · rw [swp_other _ _ _ _ hx1 hx2, HK.out.2.1 x]
                simp only [insf]
                repeat' split
                all_goals first | rfl | (exfalso; omega)
          generalize enc dk[q]! = cI at S2 l1 s2 n1
          generalize enc dk[q + 1]! = cJ at S2 l2 s1 s2 n2
          clear S1 HK
          go_big_region_o
          clear l1 l2 s1 s2
          generalize (wr.drew.setCells blk (off + q * k) cJ).setCells blk (off + (q + 1) * k) cI = w2 at S2 ⊢
          go_wp2
          go_roundg (i - 1 - (q + 1))
          case measure => omega
          case rel => exact ⟨q + 1, swp dk q (q + 1), by go_num, by omega, by omega, Nat.le_refl _, by rw [size_swp]; exact hds, S2.out, HP.out.1, HP.out.2⟩
        · have hqz : ¬ (q : Int) < (i : Int) - 1 := by omega
          have hq' : q = i - 1 := by omega
          have HF : Aside (d.size = dk.size ∧ SortedIn (ltOf cf) a b dk) := ⟨hds.symm, ins_sorted hO d dk a b i (by have := HM.out; omega) hjb (by rw [← HM.out]; exact HSO.out) HH.out.2.1 HH.out.2.2 (by rw [← hq']; exact HK.out.2.1)⟩
          clear hq'
          go_wp2
          exact bodyPost_ret (v := .tuple #[]) (by simp [results, Try.results49, go_sem]) rfl ⟨rfl, dk, hds, HK.out.2.2, HF.out.2, HK.out.1⟩
set_option maxHeartbeats 4000000 in
set_option maxRecDepth 1000000 in
/-- symMergeCmpFunc where the right run has one element, the left one more. -/
theorem symMerge_last {k : Nat} (L : SortL P k) (F : P.funcs[49]? = some Try.f49) (enc : α → List Value) (cf : α → α → Int) (hO : SWO (ltOf cf)) (g : Nat) (cb : Array Value) (blk off cap a m b : Nat) (d0 d : Array α) (w0 w : World)
    (eg : ∀ args w, (callFunc g args).run P w = .ok (.enter g args) w) (hcmp : CmpLays P g cb enc k cf blk off d0.size w0)
    (R : RowK enc k w0 blk off d0) (hs : d0.size = d.size) (S : SWK enc k w0 blk off d w) (ham : a + 1 < m) (hmb : b = m + 1) (hb : b ≤ d.size) (hsz : d.size < 4611686018427387904) (hs2 : SortedIn (ltOf cf) a m d) :
    Calls P 49 #[.slice (some ⟨blk, off, none⟩) d.size cap, .int .i64 a, .int .i64 m, .int .i64 b, .func (.func g) #[] cb] w fun e w' =>
      e = .returned (.tuple #[]) ∧ ∃ d' : Array α, d'.size = d.size ∧ PermIn a b d d' ∧ SortedIn (ltOf cf) a b d' ∧ SWK enc k w0 blk off d' w' := by
  have mixed := L.mixed; have t0 := L.t0; have a0 := L.a0; have z0 := L.z0; have v0 := L.v0; have t3 := L.t3; have a3 := L.a3; have z3 := L.z3; have v3 := L.v3; have t4 := L.t4; have a4 := L.a4; have z4 := L.z4; have v4 := L.v4; have t28 := L.t28; have a28 := L.a28; have z28 := L.z28; have v28 := L.v28; have t89 := L.t89; have a89 := L.a89; have z89 := L.z89; have v89 := L.v89; have t101 := L.t101; have aE := L.aE; have zE := L.zE
  have S0 := Go.Lib.hid S
  have HC := Go.Lib.hid hcmp
  have HSO := Go.Lib.hid hs2
  have hb1 : ((m : Int) - (a : Int) == 1) = false := by rw [beq_eq_false_iff_ne]; omega
  have hb2 : ((b : Int) - (m : Int) == 1) = true := by rw [beq_iff_eq]; omega
  have HM := Go.Lib.hid hmb
  have halt : a < m := by omega
  have hmlt : m < b := by omega
  clear S hcmp hs2 hmb
  go_enter F, Try.ntmps49
  go_wp2
  go_loopg [14, 15, 16] (m - a) (fun kx s10 s11 _ wr => ∃ (i j : Nat), s10 = .int .i64 i ∧ s11 = .int .i64 j ∧ a ≤ i ∧ i ≤ j ∧ j ≤ m ∧ j - i ≤ kx ∧
    Aside (SWK enc k w0 blk off d wr ∧ (i = a ∨ ltOf cf d[m]! d[i - 1]! = false) ∧ (j = m ∨ ltOf cf d[m]! d[j]! = true)))
  case atStart => exact ⟨a, m, rfl, rfl, Nat.le_refl _, by omega, Nat.le_refl _, Nat.le_refl _, S0.out, Or.inl rfl, Or.inl rfl⟩
  case round =>
    clear S0
    obtain ⟨i, j, rfl, rfl, hmi, hij, hjb, hkx, HH⟩ := hrel
    by_cases hlt : i < j
    · have hltz : (i : Int) < (j : Int) := by omega
      go_wp2_with fail
      obtain ⟨h, hh, h1, h2⟩ : ∃ h : Nat, ((i : Int) + (j : Int)) / 2 = (h : Int) ∧ i ≤ h ∧ h < j := ⟨(i + j) / 2, by omega, by omega, by omega⟩
      rw [hh]
      clear hh
      have ph : (0 : Int) ≤ (h : Int) := by omega
      have bh : (h : Int) < (d.size : Int) := by omega
      have pa : (0 : Int) ≤ (m : Int) := by omega
      have ba : (m : Int) < (d.size : Int) := by omega
      have rh : IntKind.i64.wrap (h : Int) = (h : Int) := by rw [IntKind.wrap_i64]; omega
      have ra : IntKind.i64.wrap (m : Int) = (m : Int) := by rw [IntKind.wrap_i64]; omega
      have eh : ((h : Int)).toNat = h := by omega
      have ea : ((m : Int)).toNat = m := by omega
      have S1 := HH.out.1
      have lh := fun n os => S1.ld R (by omega) P h (by omega) n os
      have la := fun n os => S1.ld R (by omega) P m (by omega) n os
      have hcg := fun n os => S1.cmp HC.out (by omega) d[m]! d[h]! n os
      have HCG := Go.Lib.hid hcg
      have SG := Go.Lib.hid (fun n os => S1.grown n os)
      have LT : Hid (ltOf cf d[m]! d[h]! = decide (cf d[m]! d[h]! < 0)) := rfl
      generalize hxh : d[h]! = xh at lh HCG LT
      generalize hxa : d[m]! = xa at la HCG LT
      have HX := Go.Lib.hid hxh
      have HX2 := Go.Lib.hid hxa
      clear hcg S1 hxh hxa
      by_cases hlv : cf xa xh < 0
      · go_quiet_grown (first | (go_at_fn g; refine Calls.grown_of (HCG.out _ _)))
        go_wp2
        have HS := SG.out nq osq
        go_roundg (h - i)
        case measure => omega
        case rel => exact ⟨i, h, rfl, rfl, hmi, h1, by omega, Nat.le_refl _, HS, HH.out.2.1, Or.inr (by rw [HX.out, HX2.out, LT.out]; exact decide_eq_true hlv)⟩
      · go_quiet_grown (first | (go_at_fn g; refine Calls.grown_of (HCG.out _ _)))
        go_wp2
        have HS := SG.out nq osq
        go_roundg (j - (h + 1))
        case measure => omega
        case rel => exact ⟨h + 1, j, by go_num, rfl, by omega, by omega, hjb, Nat.le_refl _, HS, Or.inr (by rw [Nat.add_sub_cancel, HX.out, HX2.out, LT.out]; exact decide_eq_false (by omega)), HH.out.2.2⟩
    · have hltz : ¬ (i : Int) < (j : Int) := by omega
      obtain rfl : i = j := by omega
      have HD : Aside ((∀ x, d[x]! = dnf (fun x => d[x]!) m m x) ∧ PermIn a b d d) := ⟨fun x => by simp only [dnf]; repeat' split <;> first | rfl | (exfalso; omega) | (congr 1), permIn_refl _ _ _⟩
      go_wp2
      go_loopg [17] (m - i) (fun kx s13 wr2 => ∃ (q : Nat) (dk : Array α), s13 = .int .i64 q ∧ i ≤ q ∧ q ≤ m ∧ q - i ≤ kx ∧ dk.size = d.size ∧ Aside (SWK enc k w0 blk off dk wr2 ∧ (∀ x, dk[x]! = dnf (fun x => d[x]!) m q x) ∧ PermIn a b d dk))
      case atStart => exact ⟨m, d, rfl, by omega, Nat.le_refl _, Nat.le_refl _, rfl, HH.out.1, HD.out.1, HD.out.2⟩
      case round =>
        clear HD
        obtain ⟨q', dk, rfl, haq, hqi, hkx2, hds, HK⟩ := hrel
        by_cases hq : i < q'
        · obtain ⟨q, rfl⟩ : ∃ q, q' = q + 1 := ⟨q' - 1, by omega⟩
          have hqz : (i : Int) < (q : Int) + 1 := by omega
          go_wp2_with fail
          have r1 : IntKind.i64.wrap ((q : Int) + 1) = (q : Int) + 1 := by rw [IntKind.wrap_i64]; omega
          have r0 : IntKind.i64.wrap (q : Int) = (q : Int) := by rw [IntKind.wrap_i64]; omega
          have p1 : (0 : Int) ≤ (q : Int) + 1 := by omega
          have b1 : (q : Int) + 1 < (d.size : Int) := by omega
          have e1 : ((q : Int) + 1).toNat = q + 1 := by omega
          have p0 : (0 : Int) ≤ (q : Int) := by omega
          have b0 : (q : Int) < (d.size : Int) := by omega
          have e0 : ((q : Int)).toNat = q := by omega
          have S1 := HK.out.1
          have S2 : Aside (SWK enc k w0 blk off (swp dk (q + 1) q) ((wr.drew.setCells blk (off + (q + 1) * k) (enc dk[q]!)).setCells blk (off + q * k) (enc dk[q + 1]!))) := S1.swapped R (q + 1) q (by omega) (by omega)
          have l1 := S1.ld1 R (by omega) P q (by omega)
          have l2 := S1.ld1 R (by omega) P (q + 1) (by omega)
          have s1 := S1.st1 R (by omega) P (q + 1) (by omega) dk[q]!
          have s2 := S1.st2 R (by omega) P (q + 1) q (by omega) (by omega) dk[q]! dk[q + 1]!
          have n1 : (enc dk[q]!).length = k := R.hk _
          have n2 : (enc dk[q + 1]!).length = k := R.hk _
          have HP : Aside ((∀ x, (swp dk (q + 1) q)[x]! = dnf (fun x => d[x]!) m q x) ∧ PermIn a b d (swp dk (q + 1) q)) := by
            refine ⟨fun x => ?_, permIn_trans _ _ _ _ _ HK.out.2.2 (swp_permIn dk a b (q + 1) q (by omega) (by omega) (by omega) (by omega) (by omega))⟩
            by_cases hx1 : x = q + 1
            · subst hx1
              rw [swp_left _ _ _ (by omega) (by omega), HK.out.2.1 q]
              simp only [dnf]
              rw [if_neg (by omega), if_neg (by omega), if_neg (by omega), if_pos (by omega)]
              congr 1
            · by_cases hx2 : x = q
              · subst hx2
                rw [swp_right _ _ _ (by omega), HK.out.2.1 (x + 1)]
                simp only [dnf, if_true]
              · rw [swp_other _ _ _ _ hx1 hx2, HK.out.2.1 x]
                simp only [dnf]
                repeat' split
                all_goals first | rfl | (exfalso; omega)
          generalize enc dk[q]! = cI at S2 l1 s1 s2 n1
          generalize enc dk[q + 1]! = cJ at S2 l2 s2 n2
          clear S1 HK
          go_big_region_o
          clear l1 l2 s1 s2
          generalize (wr.drew.setCells blk (off + (q + 1) * k) cI).setCells blk (off + q * k) cJ = w2 at S2 ⊢
          go_wp2
          go_roundg (q - i)
          case measure => omega
          case rel => exact ⟨q, swp dk (q + 1) q, by go_num, by omega, by omega, Nat.le_refl _, by rw [size_swp]; exact hds, S2.out, HP.out.1, HP.out.2⟩
        · have hqz : ¬ (i : Int) < (q' : Int) := by omega
          have hq' : q' = i := by omega
          have HF : Aside (d.size = dk.size ∧ SortedIn (ltOf cf) a b dk) := ⟨hds.symm, by rw [HM.out]; exact dn_sorted hO d dk a m i hmi (by omega) HSO.out HH.out.2.1 HH.out.2.2 (by rw [← hq']; exact HK.out.2.1)⟩
          clear hq'
          go_wp2
          exact bodyPost_ret (v := .tuple #[]) (by simp [results, Try.results49, go_sem]) rfl ⟨rfl, dk, hds, HK.out.2.2, HF.out.2, HK.out.1⟩
end Go.Proofs.Ytnojphaipfmiiaa
