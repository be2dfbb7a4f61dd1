/- stableCmpFunc: sorted in blocks, then merged. -/
import Derived.Test.YtnojphaipfmiiaaStableB
import Derived.Deep.DeepCutAuto
import Derived.Deep.CutBlock
namespace Go.Proofs.Ytnojphaipfmiiaa
open Go.Proofs Go.Shelf Go.RowKit Go.Lib Go.Sort
set_option linter.unusedVariables false
set_option linter.unusedSimpArgs false
variable {P : Program} {α : Type} [Inhabited α]
/-- Sorted in blocks of bs, up to lim. -/
def BS (lt : α → α → Bool) (bs lim : Nat) (d : Array α) : Prop := ∀ q x y, q * bs ≤ x → x < y → y < q * bs + bs → y < lim → lt d[y]! d[x]! = false
/-- Sorted in blocks of bs from a on, up to lim. -/
def BF (lt : α → α → Bool) (bs a lim : Nat) (d : Array α) : Prop := ∀ q x y, a ≤ x → q * bs ≤ x → x < y → y < q * bs + bs → y < lim → lt d[y]! d[x]! = false
theorem mul_step {q j bs : Nat} (h : q < j) : q * bs + bs ≤ j * bs := by
  have := Nat.mul_le_mul_right bs (show q + 1 ≤ j from h)
  rwa [Nat.add_mul, Nat.one_mul] at this
theorem BS.step {lt : α → α → Bool} {bs j b : Nat} {d d' : Array α} (h : BS lt bs (j * bs) d) (hb : b ≤ j * bs + bs) (hp : ∀ x, x < j * bs → d'[x]! = d[x]!) (hs : SortedIn lt (j * bs) b d') : BS lt bs b d' := by
  intro q x y h1 h2 h3 h4
  rcases Nat.lt_trichotomy q j with hq | hq | hq
  · have := mul_step (bs := bs) hq
    rw [hp x (by omega), hp y (by omega)]; exact h q x y h1 h2 h3 (by omega)
  · subst hq; exact hs x y h1 h2 h4
  · have := mul_step (bs := bs) hq
    omega

/-- stableCmpFunc's two phases meet here. -/
theorem BS.top {lt : α → α → Bool} {bs n : Nat} {d : Array α} (h : BS lt bs n d) (hn : n ≤ bs) : SortedIn lt 0 n d := fun x y _ h2 h3 => h 0 x y (by omega) h2 (by omega) h3

theorem cmpLays_on {k g size : Nat} {cb : Array Value} {enc : α → List Value} {cf : α → α → Int} {blk off : Nat} {w0 w : World} {d : Array α} (hc : CmpLays P g cb enc k cf blk off size w0) (S : SWK enc k w0 blk off d w) (hblk : blk < w0.heap.size) (hs : d.size = size) :
    CmpLays P g cb enc k cf blk off size w := fun m os dk hdk x y => by
  obtain ⟨m', os', e⟩ := S.on hblk m dk os (by omega)
  rw [e]
  exact hc m' os' dk hdk x y

theorem BF.left {lt : α → α → Bool} {bs j a lim hi : Nat} {d : Array α} (h : BF lt bs a lim d) (ha : a = j * (2 * bs)) (h1 : hi ≤ a + bs) (h2 : hi ≤ lim) : SortedIn lt a hi d := fun x y g1 g2 g3 => by
  have e : (2 * j) * bs = a := by rw [ha, Nat.mul_comm 2 j, Nat.mul_assoc]
  exact h (2 * j) x y g1 (by omega) g2 (by omega) (by omega)
theorem BF.right {lt : α → α → Bool} {bs j a lim hi : Nat} {d : Array α} (h : BF lt bs a lim d) (ha : a = j * (2 * bs)) (h1 : hi ≤ a + 2 * bs) (h2 : hi ≤ lim) : SortedIn lt (a + bs) hi d := fun x y g1 g2 g3 => by
  have e : (2 * j + 1) * bs = a + bs := by rw [ha, Nat.add_mul, Nat.one_mul, Nat.mul_comm 2 j, Nat.mul_assoc]
  exact h (2 * j + 1) x y (by omega) (by omega) g2 (by omega) (by omega)
theorem BF.next {lt : α → α → Bool} {bs a b lim : Nat} {d e : Array α} (h : BF lt bs a lim d) (hab : a ≤ b) (he : ∀ x, b ≤ x → e[x]! = d[x]!) : BF lt bs b lim e := fun q x y g1 g2 g3 g4 g5 => by
  rw [he x g1, he y (by omega)]
  exact h q x y (by omega) g2 g3 g4 g5

set_option maxHeartbeats 8000000 in
set_option maxRecDepth 1000000 in
theorem stable_any {k : Nat} (L : SortL P k) (F66 : P.funcs[66]? = some Try.f66) (F60 : P.funcs[60]? = some Try.f60) (F49 : P.funcs[49]? = some Try.f49) (F48 : P.funcs[48]? = some Try.f48) (F : P.funcs[40]? = some Try.f40)
    (ρ : Ren) (hρ : ρ.f 20 = 48) (hρt : ρ.t 24 = 52) (LI : SlLaysF0.n20 P ρ) (enc : α → List Value) (cf : α → α → Int) (hO : SWO (ltOf cf)) (g : Nat) (cb : Array Value) (blk off cap : Nat) (d0 : Array α) (w0 : World)
    (eg : ∀ args w, (callFunc g args).run P w = .ok (.enter g args) w) (hcmp : CmpLays P g cb enc k cf blk off d0.size w0)
    (R : RowK enc k w0 blk off d0) (hsz0 : d0.size < 1152921504606846976) :
    Calls P 40 #[.slice (some ⟨blk, off, none⟩) d0.size cap, .int .i64 d0.size, .func (.func g) #[] cb] w0 fun e w' =>
      e = .returned (.tuple #[]) ∧ ∃ d' : Array α, d'.size = d0.size ∧ PermIn 0 d0.size d0 d' ∧ SortedIn (ltOf cf) 0 d0.size d' ∧ SWK enc k w0 blk off d' w' := by
  have mixed := L.mixed; have t0 := L.t0; have a0 := L.a0; have z0 := L.z0; have v0 := L.v0; have t3 := L.t3; have a3 := L.a3; have z3 := L.z3; have v3 := L.v3; have t4 := L.t4; have a4 := L.a4; have z4 := L.z4; have v4 := L.v4; have t28 := L.t28; have a28 := L.a28; have z28 := L.z28; have v28 := L.v28; have t89 := L.t89; have a89 := L.a89; have z89 := L.z89; have v89 := L.v89
  have e48 : ∀ args w, (callFunc 48 args).run P w = .ok (.enter 48 args) w := enters_of F48 (by kernel_rfl) rfl
  have e49 : ∀ args w, (callFunc 49 args).run P w = .ok (.enter 49 args) w := enters_of F49 (by kernel_rfl) rfl
  have hsz : d0.size < 4611686018427387904 := by omega
  have INS : Hid (∀ (a b : Nat) (d : Array α) (w : World), d.size = d0.size → SWK enc k w0 blk off d w → a ≤ b → b ≤ d0.size → Calls P 48 #[.slice (some ⟨blk, off, none⟩) d0.size cap, .int .i64 a, .int .i64 b, .func (.func g) #[] cb] w fun e w' =>
      e = .returned (.tuple #[]) ∧ ∃ d' : Array α, d'.size = d0.size ∧ PermIn a b d d' ∧ SortedIn (ltOf cf) a b d' ∧ SWK enc k w0 blk off d' w') := fun a b d w h1 h2 h3 h4 => by
    have aE : ∀ w, (isAgg (ρ.t 24)).run P w = .ok true w := by rw [hρt]; exact L.aE
    have zE : ∀ w, (Go.sizeOf (ρ.t 24)).run P w = .ok k w := by rw [hρt]; exact L.zE
    have hH := h2.holds R.hblk R.hH h1
    have hlt := h2.lt R.hblk
    have := AnyQ.insertionSortCmpFunc LI k aE zE enc R.hk R.h1 cf g cb blk off cap a b d w eg (by rw [h1]; exact cmpLays_on hcmp h2 R.hblk h1) hH hlt h3 (by omega) (by omega)
    rw [hρ, h1] at this
    refine this.mono ?_
    rintro e w' ⟨rfl, n, os, rfl⟩
    have hi := insertionSort_holds (lt := ltOf cf) hO d a b h3 (by omega)
    have hsz1 : (insertionSort (ltOf cf) d a b).size = d.size := hi.1.1
    exact ⟨rfl, _, by omega, hi.1, hi.2, h2.on R.hblk n _ os (by omega)⟩
  have MRG : Hid (∀ (a m b : Nat) (d : Array α) (w : World), d.size = d0.size → SWK enc k w0 blk off d w → a < m → m < b → b ≤ d0.size → SortedIn (ltOf cf) a m d → SortedIn (ltOf cf) m b d → Calls P 49 #[.slice (some ⟨blk, off, none⟩) d0.size cap, .int .i64 a, .int .i64 m, .int .i64 b, .func (.func g) #[] cb] w fun e w' =>
      e = .returned (.tuple #[]) ∧ ∃ d' : Array α, d'.size = d0.size ∧ PermIn a b d d' ∧ SortedIn (ltOf cf) a b d' ∧ SWK enc k w0 blk off d' w') := fun a m b d w h1 h2 h3 h4 h5 h6 h7 => by
    have := symMerge_any L F66 F60 F49 enc cf hO g cb blk off cap d0 w0 eg hcmp R hsz (b - a) a m b d w (Nat.le_refl _) h1.symm h2 h3 h4 (by omega) h6 h7
    rw [h1] at this
    exact this
  have S0 := Go.Lib.hid (SWK.start R.hH)
  generalize hn : d0.size = n at *
  have HN := Go.Lib.hid hn
  clear hcmp LI F66 F60 F49 F48 eg hn
  go_enter F, Try.ntmps40
  go_wp2
  go_loopg [7, 8] n (fun kx s7 s8 wr => ∃ a b : Nat, s7 = .int .i64 a ∧ s8 = .int .i64 b ∧ b = a + 20 ∧ a ≤ n ∧ n - a ≤ kx ∧
    Aside (∃ (j : Nat) (d : Array α), a = j * 20 ∧ d.size = n ∧ BS (ltOf cf) 20 a d ∧ PermIn 0 n d0 d ∧ SWK enc k w0 blk off d wr))
  case atStart =>
    exact ⟨0, 20, rfl, rfl, rfl, Nat.zero_le _, by omega, 0, d0, by omega, HN.out, fun q x y _ _ _ h => by omega, permIn_refl d0 _ _, S0.out⟩
  case round =>
    obtain ⟨a, b, rfl, rfl, hb, hbn, hkx, HH⟩ := hrel
    obtain ⟨j, d, hj, hd, hbs, hp, hS⟩ := HH.out
    have HJ := Go.Lib.hid hj; have HD := Go.Lib.hid hd; have HB := Go.Lib.hid hb
    have HBS := Go.Lib.hid hbs; have HP := Go.Lib.hid hp; have HSS := Go.Lib.hid hS
    have hi1 : b < 4611686018427387924 := by omega
    have hi2 : a < 4611686018427387904 := by omega
    have hab : a ≤ b := by omega
    clear hj hd hbs hp hS HH hb S0
    by_cases hlt : b ≤ n
    · have hltz : (b : Int) ≤ (n : Int) := by omega
      go_wp2_with fail
      refine (INS.out a b d wr HD.out HSS.out hab hlt).mono ?_
      rintro u1 w1 ⟨rfl, e, he1, he2, he3, he4⟩
      have HE := Go.Lib.hid he1; have HE2 := Go.Lib.hid he2; have HE3 := Go.Lib.hid he3; have HE4 := Go.Lib.hid he4
      clear he1 he2 he3 he4
      go_wp2
      go_roundg (n - b)
      case measure => have := HB.out; omega
      case rel =>
        refine ⟨b, b + 20, rfl, by go_num, rfl, hlt, Nat.le_refl _, j + 1, e, by have := HB.out; have := HJ.out; omega, HE.out, ?_, permIn_trans _ _ _ _ _ HP.out (permIn_mono _ _ _ _ _ _ (Nat.zero_le _) hlt (by have := HD.out; omega) HE2.out), HE4.out⟩
        have h0 := HBS.out
        have h3 := HE3.out
        rw [HJ.out] at h0 h3
        exact h0.step (by have := HB.out; have := HJ.out; omega) (fun x hx => HE2.out.2.1 x (Or.inl (by have := HJ.out; omega))) h3
    · have hltz : ¬ (b : Int) ≤ (n : Int) := by omega
      clear hkx
      go_wp2_with fail
      refine (INS.out a n d wr HD.out HSS.out hbn (Nat.le_refl _)).mono ?_
      rintro u1 w1 ⟨rfl, e, he1, he2, he3, he4⟩
      have HA : Hid (e.size = n ∧ BS (ltOf cf) 20 n e ∧ PermIn 0 n d0 e ∧ SWK enc k w0 blk off e w1) := by
        refine ⟨he1, ?_, permIn_trans _ _ _ _ _ HP.out (permIn_mono _ _ _ _ _ _ (Nat.zero_le _) (Nat.le_refl _) (by have := HD.out; omega) he2), he4⟩
        have h0 := HBS.out
        rw [HJ.out] at h0 he3
        exact h0.step (by have := HB.out; have := HJ.out; omega) (fun x hx => he2.2.1 x (Or.inl (by have := HJ.out; omega))) he3
      clear he1 he2 he3 he4 HJ HD HB HBS HP HSS INS
      go_wp2
      go_loopg [6, 7, 8, 9] n (fun kx s6 s7 s8 s9 wr => ∃ bs : Nat, s6 = .int .i64 bs ∧ 20 ≤ bs ∧ bs < 9223372036854775808 ∧ n - bs ≤ kx ∧
        Aside (∃ d : Array α, d.size = n ∧ BS (ltOf cf) bs n d ∧ PermIn 0 n d0 d ∧ SWK enc k w0 blk off d wr))
      case atStart => exact ⟨20, rfl, by omega, by omega, by omega, e, HA.out⟩
      case round =>
        obtain ⟨bs, rfl, hb20, hbs, hkx, HH⟩ := hrel
        obtain ⟨d1, hd1, hbs1, hp1, hS1⟩ := HH.out
        have HD := Go.Lib.hid hd1; have HBS := Go.Lib.hid hbs1; have HP := Go.Lib.hid hp1; have HSS := Go.Lib.hid hS1
        clear hd1 hbs1 hp1 hS1 HH HA
        by_cases hlt2 : bs < n
        · have hltz2 : (bs : Int) < (n : Int) := by omega
          go_wp2_with fail
          go_loopg [7, 8] n (fun ky s7 s8 wr => ∃ a b : Nat, s7 = .int .i64 a ∧ s8 = .int .i64 b ∧ b = a + 2 * bs ∧ a ≤ n ∧ n - a ≤ ky ∧
            Aside (∃ (j : Nat) (d : Array α), a = j * (2 * bs) ∧ d.size = n ∧ BS (ltOf cf) (2 * bs) a d ∧ BF (ltOf cf) bs a n d ∧ PermIn 0 n d0 d ∧ SWK enc k w0 blk off d wr))
          case atStart =>
            exact ⟨0, 2 * bs, rfl, by go_num, by omega, Nat.zero_le _, by omega, 0, d1, by omega, HD.out, fun q x y _ _ _ h => by omega, fun q x y _ => HBS.out q x y, HP.out, HSS.out⟩
          case round =>
            obtain ⟨a, b, rfl, rfl, hb, hbn, hky, HH⟩ := hrel
            obtain ⟨j, d, hj, hd, hb1, hb2, hp, hS⟩ := HH.out
            have HJ := Go.Lib.hid hj; have HB := Go.Lib.hid hb; have HE := Go.Lib.hid hd
            have HB1 := Go.Lib.hid hb1; have HB2 := Go.Lib.hid hb2; have HQ := Go.Lib.hid hp; have HSX := Go.Lib.hid hS
            clear hj hd hb1 hb2 hp hS HH HD HBS HP HSS
            have hi3 : bs < 1152921504606846976 := by omega
            have hi4 : a < 1152921504606846976 := by omega
            have hi5 : b < 3458764513820540928 := by omega
            have hab : a ≤ b := by omega
            clear hb
            by_cases hlt : b ≤ n
            · have hltz : (b : Int) ≤ (n : Int) := by omega
              go_wp2_with fail
              rw [show (a : Int) + (bs : Int) = ((a + bs : Nat) : Int) by omega]
              refine (MRG.out a (a + bs) b d wr HE.out HSX.out (by omega) (by have := HB.out; omega) hlt (HB2.out.left HJ.out (Nat.le_refl _) (by have := HB.out; omega)) (HB2.out.right HJ.out (by have := HB.out; omega) hlt)).mono ?_
              rintro u2 w2 ⟨rfl, f, hf1, hf2, hf3, hf4⟩
              have HF1 := Go.Lib.hid hf1; have HF2 := Go.Lib.hid hf2; have HF3 := Go.Lib.hid hf3; have HF4 := Go.Lib.hid hf4
              clear hf1 hf2 hf3 hf4
              go_wp2
              go_roundg (n - b)
              case measure => have := HB.out; omega
              case rel =>
                refine ⟨b, b + 2 * bs, rfl, by go_num, rfl, hlt, Nat.le_refl _, j + 1, f, by rw [HB.out, HJ.out, Nat.add_mul, Nat.one_mul], HF1.out, ?_, HB2.out.next hab (fun x hx => HF2.out.2.1 x (Or.inr hx)), permIn_trans _ _ _ _ _ HQ.out (permIn_mono _ _ _ _ _ _ (Nat.zero_le _) hlt (by have := HE.out; omega) HF2.out), HF4.out⟩
                have h0 := HB1.out
                have h3 := HF3.out
                rw [HJ.out] at h0 h3
                exact h0.step (by have := HB.out; have := HJ.out; omega) (fun x hx => HF2.out.2.1 x (Or.inl (by have := HJ.out; omega))) h3
            · have hltz : ¬ (b : Int) ≤ (n : Int) := by omega
              clear hky
              by_cases hm : a + bs < n
              · have hmz : (a : Int) + (bs : Int) < (n : Int) := by omega
                go_wp2_with fail
                rw [show (a : Int) + (bs : Int) = ((a + bs : Nat) : Int) by omega]
                refine (MRG.out a (a + bs) n d wr HE.out HSX.out (by omega) hm (Nat.le_refl _) (HB2.out.left HJ.out (Nat.le_refl _) (by omega)) (HB2.out.right HJ.out (by have := HB.out; omega) (Nat.le_refl _))).mono ?_
                rintro u2 w2 ⟨rfl, f, hf1, hf2, hf3, hf4⟩
                have HA : Hid (f.size = n ∧ BS (ltOf cf) (2 * bs) n f ∧ PermIn 0 n d0 f ∧ SWK enc k w0 blk off f w2) := by
                  refine ⟨hf1, ?_, permIn_trans _ _ _ _ _ HQ.out (permIn_mono _ _ _ _ _ _ (Nat.zero_le _) (Nat.le_refl _) (by have := HE.out; omega) hf2), hf4⟩
                  have h0 := HB1.out
                  rw [HJ.out] at h0 hf3
                  exact h0.step (by have := HB.out; have := HJ.out; omega) (fun x hx => hf2.2.1 x (Or.inl (by have := HJ.out; omega))) hf3
                clear hf1 hf2 hf3 hf4 HJ HB HE HB1 HB2 HQ HSX
                go_wp2
                go_roundg (n - 2 * bs)
                case measure => omega
                case rel => exact ⟨2 * bs, by go_num, by omega, by omega, Nat.le_refl _, f, HA.out⟩
              · have hmz : ¬ (a : Int) + (bs : Int) < (n : Int) := by omega
                go_wp2_with fail
                go_roundg (n - 2 * bs)
                case measure => omega
                case rel =>
                  refine ⟨2 * bs, by go_num, by omega, by omega, Nat.le_refl _, d, HE.out, ?_, HQ.out, HSX.out⟩
                  have h3 := HB2.out.left (hi := n) HJ.out (by omega) (Nat.le_refl _)
                  have h0 := HB1.out
                  rw [HJ.out] at h0 h3
                  exact h0.step (by have := HB.out; have := HJ.out; omega) (fun x hx => rfl) h3
        · have hltz2 : ¬ (bs : Int) < (n : Int) := by omega
          clear hkx
          go_wp2_with fail
          go_end0
          exact ⟨rfl, d1, HD.out, HP.out, HBS.out.top (by omega), HSS.out⟩

end Go.Proofs.Ytnojphaipfmiiaa
