/- The walk of pom.Read; the conditions stand in the theorem. -/
import Derived.Test.YtphaeegbmfpcgaaGreatDoorFB16
import Derived.Deep.CutRange
namespace Go.Proofs.YtphaeegbmfpcgaaGreatDoor
open Go Go.RowKit

def nameE (t : Tr) : Option Er := if t.name = bProject then none else some (20, t.name)
def pqUpd (B : Nat) (e0 e1 e2 e3 e4 : Value) (G A N : S) (x0 x1 x2 x3 x4 x5 x6 x7 x8 x9 x10 x11 x12 x13 x14 x15 x16 x17 x18 x19 x20 x21 x22 x23 x24 x25 x26 x27 x36 x37 x38 x39 x40 x41 x42 x43 x44 x45 x46 x47 x48 x49 x50 x51 x52 x53 x54 x55 x56 x57 x58 x59 x60 x61 x62 x63 : Value) (f0 f1 f2 f3 f4 f5 f6 f7 _f8 : Bool)  : Act :=
 ⟨#[x0, x1, x2, x3, x4, x5, x6, x7, x8, x9, x10, x11, x12, x13, x14, x15, x16, x17, x18, x19, x20, x21, x22, x23, x24, x25, x26, x27, cond f0 (.agg #[e0, e1, e2, e3, e4]) undef, cond f1 (.string G) undef, cond f2 (.agg #[e0, e1, e2, e3, e4]) undef, cond f3 (.string A) undef, cond f4 (.agg #[e0, e1, e2, e3, e4]) undef, cond f5 (.string N) undef, cond f6 (.agg #[.string G, .string A, .string N]) undef, cond f7 (.pointer (some ⟨B + 1, 1, none⟩)) undef, x36, x37, x38, x39, x40, x41, x42, x43, x44, x45, x46, x47, x48, x49, x50, x51, x52, x53, x54, x55, x56, x57, x58, x59, x60, x61, x62, x63], [{ target := .fn (.func 83) #[.pointer (some ⟨B + 1, 0, none⟩), .pointer (some ⟨B + 1 + 1, 0, none⟩), .pointer (some ⟨B + 1 + 1 + 1, 0, none⟩)], args := #[] }]⟩
def pqJ (B : Nat) (e0 e1 e2 e3 e4 : Value) (G A N : S) (E1 E2 E3 : Option Er) (V : World) (x0 x1 x2 x3 x4 x5 x6 x7 x8 x9 x10 x11 x12 x13 x14 x15 x16 x17 x18 x19 x20 x21 x22 x23 x24 x25 x26 x27 x36 x37 x38 x39 x40 x41 x42 x43 x44 x45 x46 x47 x48 x49 x50 x51 x52 x53 x54 x55 x56 x57 x58 x59 x60 x61 x62 x63 : Value) (listed : Array Bool) (atx : Act) (w' : World) : Prop :=
 ∃ (f0 f1 f2 f3 f4 f5 f6 f7 f8 : Bool) , listed = #[f0, f1, f2, f3, f4, f5, f6, f7, f8] ∧ atx = pqUpd B e0 e1 e2 e3 e4 G A N x0 x1 x2 x3 x4 x5 x6 x7 x8 x9 x10 x11 x12 x13 x14 x15 x16 x17 x18 x19 x20 x21 x22 x23 x24 x25 x26 x27 x36 x37 x38 x39 x40 x41 x42 x43 x44 x45 x46 x47 x48 x49 x50 x51 x52 x53 x54 x55 x56 x57 x58 x59 x60 x61 x62 x63 f0 f1 f2 f3 f4 f5 f6 f7 f8  ∧ Hid (f8 = true → f0 = true ∧ f1 = true ∧ f2 = true ∧ f3 = true ∧ f4 = true ∧ f5 = true) ∧ Hid (f1 = true → E1 = none) ∧ Hid (f3 = true → E1 = none ∧ E2 = none) ∧ Hid (f5 = true → E1 = none ∧ E2 = none ∧ E3 = none) ∧ (f8 = false → Below V.heap.size V w') ∧ (f8 = true → Box w' (B + 1) [.bool true, .string G, .string A, .string N, .string ⟨#[]⟩, .string ⟨#[]⟩, .string ⟨#[]⟩, .string ⟨#[]⟩, .slice none 0 0, .slice none 0 0, .slice none 0 0] ∧ ∃ w8, Below V.heap.size V w8 ∧ w8.grownBy w' (some (B + 1)))
set_option maxRecDepth 100000 in
set_option maxHeartbeats 16000000 in
theorem readW_any (t : Tr) (w : World) (av kv : Value) (ht : NodeOf w t av kv) (hm : MildW t) :
    Calls Tryz.prog 50 #[.agg #[.string (bs t.name), av, kv, .string (bs t.text)]] w (ReadOut t w) := by
 obtain ⟨ao, ac, ko, kc, rfl, rfl, hal, -⟩ := ht.shape
 have HM := Lib.hid hm
 have HE : Hid (readE t = (nameE t).or ((parentE t bProject).or ((wordE t bProject bGroup false freeB).or ((wordE t bProject bArtifact true freeB).or ((wordE t bProject bVersion false freeB).or
  ((wordE t bProject bPackaging false freeB).or ((propsE t bProject).or ((managedE t bProject).or (depsE false t bProject)))))))) ) := rfl
 have HV : Hid (readV t = ⟨(parentV t).1, (parentV t).2, bs (wordV t bGroup), bs (wordV t bArtifact), bs (wordV t bVersion), bs (wordV t bPackaging), propsV t, managedV t, depsV t⟩) := rfl
 have HNT : Hid (NodeOf w t (.slice ao t.attrs.length ac) (.slice ko t.kids.length kc)) := ht
 have hmf : ∀ (fn : Fn) (first cap : Array Value) (w : World), (Instr.makeFunc fn first cap).run Tryz.prog w = .ok (.func fn first cap) w := fun _ _ _ _ => rfl
 obtain ⟨q, hq⟩ : ∃ q, q = decide (t.name = bProject) := ⟨_, rfl⟩
 have hbq : ((bs t.name : S).toList == [112, 114, 111, 106, 101, 99, 116]) = q := by
  have h1 := bs_beq2 t.name bProject
  rw [show ((bs bProject : S)).toList = [112, 114, 111, 106, 101, 99, 116] from by decide +kernel] at h1
  rw [h1, hq]
 have HQ := Lib.hid hq
 clear ht hm hq
 go_enter_defers Tryz.func50, Tryz.ntmps50
 go_upto_region 3 with fail
 refine wp_world ?_
 intro W hW
 have x0 : Box W w.heap.size [.string (bs t.name), .slice ao t.attrs.length ac, .slice ko t.kids.length kc, .string (bs t.text)] := by rw [hW]; exact ((((Box.new w [.string (bs t.name), .slice ao t.attrs.length ac, .slice ko t.kids.length kc, .string (bs t.text)] _ _ rfl).alloc _).alloc _).alloc _).alloc _
 have x1 : Box W (w.heap.size + 1) [.bool false, .string ⟨#[]⟩, .string ⟨#[]⟩, .string ⟨#[]⟩, .string ⟨#[]⟩, .string ⟨#[]⟩, .string ⟨#[]⟩, .string ⟨#[]⟩, .slice none 0 0, .slice none 0 0, .slice none 0 0] := by rw [hW]; exact (((Box.new _ [.bool false, .string ⟨#[]⟩, .string ⟨#[]⟩, .string ⟨#[]⟩, .string ⟨#[]⟩, .string ⟨#[]⟩, .string ⟨#[]⟩, .string ⟨#[]⟩, .slice none 0 0, .slice none 0 0, .slice none 0 0] _ _ (by simp)).alloc _).alloc _).alloc _
 have x2 : Box W (w.heap.size + 2) [.int .i64 0] := by rw [hW]; exact ((Box.new _ [.int .i64 0] _ _ (by simp)).alloc _).alloc _
 have x3 : Box W (w.heap.size + 3) [.string ⟨#[]⟩] := by rw [hW]; exact (Box.new _ [.string ⟨#[]⟩] _ _ (by simp)).alloc _
 have x4 : Box W (w.heap.size + 4) [.string (bs t.name), .slice ao t.attrs.length ac, .slice ko t.kids.length kc, .string (bs t.text), .string (bs t.name)] := by rw [hW]; exact Box.new _ [.string (bs t.name), .slice ao t.attrs.length ac, .slice ko t.kids.length kc, .string (bs t.text), .string (bs t.name)] _ _ (by simp)
 have hb : Below w.heap.size w W := by rw [hW]; exact (((((Below.refl _ _).alloc (Nat.le_refl _) _).alloc (by simp) _).alloc (by simp; omega) _).alloc (by simp; omega) _).alloc (by simp; omega) _
 clear hW hmf
 have HN := Lib.hid x0
 have HP := Lib.hid x1
 have HEN := Lib.hid x2
 have HWH := Lib.hid x3
 have HRT := Lib.hid x4
 have HB := Lib.hid hb
 clear x0 x1 x2 x3 x4 hb
 have c0 := HN.out.cell 0 _ rfl
 have cl := HN.out.lt
 cases q with
 | false =>
  have HR : Hid (readE t = some (20, t.name)) := by
   show _ = _
   rw [HE.out]; unfold nameE; rw [if_neg (of_decide_eq_false HQ.out.symm)]; rfl
  clear HE HV
  go_wp2_with fail
  refine (failQ_any _ _ _).mono ?_
  rintro e w9 ⟨rfl, rfl⟩
  go_wp2
  exact read_bad t (20, t.name) HR.out w W _ _ _ _ _ _ _ _ _ _ _ _ _ _ rfl rfl rfl HP.out HEN.out HWH.out HB.out
 | true =>
  have htn : t.name = bProject := of_decide_eq_true HQ.out.symm
  have n0 : Hid (nameE t = none) := by show _ = _; unfold nameE; rw [if_pos htn]
  have HRT1 : Hid (Box W (w.heap.size + 4) [.string (bs t.name), .slice ao t.attrs.length ac, .slice ko t.kids.length kc, .string (bs t.text), .string (bs bProject)]) := by have h1 := HRT.out; rw [htn] at h1 ⊢; exact h1
  clear HRT htn HQ
  have HRT := HRT1
  clear HRT1
  have HSB : Hid (w.heap.size + 4 < W.heap.size) := HRT.out.lt
  have HPF : Hid (∀ X, Below w.heap.size w X → Calls Tryz.prog 85 #[.agg #[.string (bs t.name), .slice ao t.attrs.length ac, .slice ko t.kids.length kc, .string (bs t.text), .string (bs bProject)], .string ⟨#[112, 97, 114, 101, 110, 116]⟩] X (Ret (manyE t bProject bParent) (FieldX (fun j => w.heap.size ≤ j) bProject bParent (oneV t bParent)) X)) := fun X h => field_x (fun j => w.heap.size ≤ j) t bProject bParent X _ _ (HNT.out.fresh.later h) HM.out.kl (by decide)
  have HWD2 : Hid (∀ X, Below w.heap.size w X → Calls Tryz.prog 86 #[.agg #[.string (bs t.name), .slice ao t.attrs.length ac, .slice ko t.kids.length kc, .string (bs t.text), .string (bs bProject)], .string ⟨#[103, 114, 111, 117, 112, 73, 100]⟩, .bool false, .func (.func 87) #[] #[]] X (Ret (wordE t bProject bGroup false freeB) (fun e _ => e = .returned (.string (bs (wordV t bGroup)))) X)) := fun X h => wordQ_any _ _ _ t bProject bGroup false X _ _ (HNT.out.later h) HM.out (by decide) (tests_free X)
  have HWD3 : Hid (∀ X, Below w.heap.size w X → Calls Tryz.prog 86 #[.agg #[.string (bs t.name), .slice ao t.attrs.length ac, .slice ko t.kids.length kc, .string (bs t.text), .string (bs bProject)], .string ⟨#[97, 114, 116, 105, 102, 97, 99, 116, 73, 100]⟩, .bool true, .func (.func 87) #[] #[]] X (Ret (wordE t bProject bArtifact true freeB) (fun e _ => e = .returned (.string (bs (wordV t bArtifact)))) X)) := fun X h => wordQ_any _ _ _ t bProject bArtifact true X _ _ (HNT.out.later h) HM.out (by decide) (tests_free X)
  have HWD4 : Hid (∀ X, Below w.heap.size w X → Calls Tryz.prog 86 #[.agg #[.string (bs t.name), .slice ao t.attrs.length ac, .slice ko t.kids.length kc, .string (bs t.text), .string (bs bProject)], .string ⟨#[118, 101, 114, 115, 105, 111, 110]⟩, .bool false, .func (.func 87) #[] #[]] X (Ret (wordE t bProject bVersion false freeB) (fun e _ => e = .returned (.string (bs (wordV t bVersion)))) X)) := fun X h => wordQ_any _ _ _ t bProject bVersion false X _ _ (HNT.out.later h) HM.out (by decide) (tests_free X)
  have HWD5 : Hid (∀ X, Below w.heap.size w X → Calls Tryz.prog 86 #[.agg #[.string (bs t.name), .slice ao t.attrs.length ac, .slice ko t.kids.length kc, .string (bs t.text), .string (bs bProject)], .string ⟨#[112, 97, 99, 107, 97, 103, 105, 110, 103]⟩, .bool false, .func (.func 87) #[] #[]] X (Ret (wordE t bProject bPackaging false freeB) (fun e _ => e = .returned (.string (bs (wordV t bPackaging)))) X)) := fun X h => wordQ_any _ _ _ t bProject bPackaging false X _ _ (HNT.out.later h) HM.out (by decide) (tests_free X)
  have HPR : Hid (∀ X, Below w.heap.size w X → Calls Tryz.prog 88 #[.agg #[.string (bs t.name), .slice ao t.attrs.length ac, .slice ko t.kids.length kc, .string (bs t.text), .string (bs bProject)]] X (Ret (propsE t bProject) (PropsP X (propsV t)) X)) := fun X h => propsQ_any t bProject X _ _ (HNT.out.later h) HM.out (by decide)
  have HMF : Hid (∀ X, Below w.heap.size w X → Calls Tryz.prog 85 #[.agg #[.string (bs t.name), .slice ao t.attrs.length ac, .slice ko t.kids.length kc, .string (bs t.text), .string (bs bProject)], .string ⟨#[100, 101, 112, 101, 110, 100, 101, 110, 99, 121, 77, 97, 110, 97, 103, 101, 109, 101, 110, 116]⟩] X (Ret (manyE t bProject bManagement) (FieldX (fun _ => False) bProject bManagement (oneV t bManagement)) X)) := fun X h => field_x (fun _ => False) t bProject bManagement X _ _ (HNT.out.later h) HM.out.kl (by decide)
  have HDP : Hid (∀ X, Below w.heap.size w X → Calls Tryz.prog 89 #[.agg #[.string (bs t.name), .slice ao t.attrs.length ac, .slice ko t.kids.length kc, .string (bs t.text), .string (bs bProject)], .bool false] X (Ret (depsE false t bProject) (DepsP X (depsV t)) X)) := fun X h => depsQ_any false t bProject X _ _ (HNT.out.later h) HM.out (by decide)
  go_upto_region 5 with fail
  clear c0 cl hbq HN
  obtain ⟨a0, a1, a2, a3, a4⟩ := bxc5 HRT.out
  have al := HRT.out.lt
  go_wp2_with fail
  refine (HPF.out _ HB.out).mono ?_
  rintro e w1 ⟨hb1, hp1, hq⟩
  clear a0 a1 a2 a3 a4 al
  have HP1 := Lib.hid (HP.out.below hb1 HP.out.lt)
  have HEN1 := Lib.hid (HEN.out.below hb1 HEN.out.lt)
  have HWH1 := Lib.hid (HWH.out.below hb1 HWH.out.lt)
  have HRT1 := Lib.hid (HRT.out.below hb1 HRT.out.lt)
  have HB1 := Lib.hid (HB.out.trans (hb1.mono HB.out.size))
  clear HP HEN HWH HRT HB
  have HP := HP1
  have HEN := HEN1
  have HWH := HWH1
  have HRT := HRT1
  have HB := HB1
  clear HP1 HEN1 HWH1 HRT1 HB1
  rcases hM : manyE t bProject bParent with _ | x
  rotate_left
  · obtain rfl := hp1 x hM
    have HR : Hid (readE t = some x) := by show _ = _; rw [HE.out, n0.out, Option.none_or]; unfold parentE; rw [hM]; rfl
    clear hp1 hq hM HE HV
    unfold panE
    go_wp2
    exact read_bad t x HR.out w w1 _ _ _ _ _ _ _ _ _ _ _ _ _ _ rfl rfl rfl HP.out HEN.out HWH.out HB.out
  have hq := hq hM
  have HMN := Lib.hid hM
  clear hp1 hM hb1 HPF
  obtain ⟨PV, hPV⟩ : ∃ PV, PV = parentV t := ⟨_, rfl⟩
  have HPV := Lib.hid hPV
  clear hPV
  obtain ⟨hp, ⟨pg, pa, pn⟩⟩ := PV
  obtain ⟨s0, b1, m1, c1, b2, m2, c2, s3, s4, ok, rfl, hno, hyes⟩ : ∃ (s0 : S) (b1 : Option Addr) (m1 c1 : Nat) (b2 : Option Addr) (m2 c2 : Nat) (s3 s4 : S) (ok : Bool), e = .returned (.tuple #[.agg #[.string s0, .slice b1 m1 c1, .slice b2 m2 c2, .string s3, .string s4], .bool ok]) ∧ (ok = false → oneV t bParent = none) ∧ (ok = true → ∃ k av kv, oneV t bParent = some k ∧ (Value.agg #[.string s0, .slice b1 m1 c1, .slice b2 m2 c2, .string s3, .string s4]) = elemV k av kv (sl bProject bParent) ∧ NodeX (fun j => w.heap.size ≤ j) w1 k av kv) := by
   rcases hO : oneV t bParent with _ | k
   · rw [hO] at hq
     simp only [FieldX] at hq
     exact ⟨_, _, _, _, _, _, _, _, _, false, hq, fun _ => rfl, by simp⟩
   · rw [hO] at hq
     obtain ⟨av2, kv2, he, hn⟩ := hq
     obtain ⟨q1, q2, q3, q4, rfl, rfl, -, -⟩ := hn.shape
     exact ⟨_, _, _, _, _, _, _, _, _, true, he, by simp, fun _ => ⟨k, _, _, rfl, rfl, hn⟩⟩
  have HNO := Lib.hid hno
  have HYES := Lib.hid hyes
  clear hq hno hyes
  go_upto_if 26 with fail
  refine wp_world ?_
  intro W2 hW2
  have x5 : Box W2 w1.heap.size [.string s0, .slice b1 m1 c1, .slice b2 m2 c2, .string s3, .string s4] := by rw [hW2]; exact Box.new w1 [.string s0, .slice b1 m1 c1, .slice b2 m2 c2, .string s3, .string s4] _ _ rfl
  have hb2 : Below w1.heap.size w1 W2 := by rw [hW2]; exact (Below.refl _ _).alloc (Nat.le_refl _) _
  clear hW2
  have HF := Lib.hid x5
  have HB12 := Lib.hid hb2
  have HS1 : Hid (w.heap.size + 4 < w1.heap.size) := HRT.out.lt
  clear x5
  have HP1 := Lib.hid (HP.out.below hb2 HP.out.lt)
  have HEN1 := Lib.hid (HEN.out.below hb2 HEN.out.lt)
  have HWH1 := Lib.hid (HWH.out.below hb2 HWH.out.lt)
  have HRT1 := Lib.hid (HRT.out.below hb2 HRT.out.lt)
  have HB1 := Lib.hid (HB.out.trans (hb2.mono HB.out.size))
  clear HP HEN HWH HRT HB
  have HP := HP1
  have HEN := HEN1
  have HWH := HWH1
  have HRT := HRT1
  have HB := HB1
  clear HP1 HEN1 HWH1 HRT1 HB1
  clear hb2
  go_cut [] from 26 to 35 (fun wx => Hid (Below w.heap.size w wx ∧ Box wx (w.heap.size + 1) [.bool hp, .string pg, .string pa, .string pn, .string ⟨#[]⟩, .string ⟨#[]⟩, .string ⟨#[]⟩, .string ⟨#[]⟩, .slice none 0 0, .slice none 0 0, .slice none 0 0] ∧ Box wx (w.heap.size + 2) [.int .i64 0] ∧ Box wx (w.heap.size + 3) [.string ⟨#[]⟩] ∧ Box wx (w.heap.size + 4) [.string (bs t.name), .slice ao t.attrs.length ac, .slice ko t.kids.length kc, .string (bs t.text), .string (bs bProject)] ∧ parentE t bProject = none))
  case first =>
   cases ok with
   | false =>
    have hO := HNO.out rfl
    have h1 := HPV.out
    have hpe : parentE t bProject = none := by unfold parentE; rw [HMN.out, hO]; rfl
    unfold parentV at h1
    rw [hO] at h1
    simp only [Prod.mk.injEq, Gav.mk.injEq] at h1
    obtain ⟨rfl, rfl, rfl, rfl⟩ := h1
    have HPE := Lib.hid hpe
    clear hO hpe
    go_wp2
    go_meet
    case rel => exact ⟨HB.out, HP.out, HEN.out, HWH.out, HRT.out, HPE.out⟩
   | true =>
    obtain ⟨k, av2, kv2, hO, hev, hn⟩ := HYES.out rfl
    have h1 := HPV.out
    unfold parentV at h1
    rw [hO] at h1
    simp only [Prod.mk.injEq, Gav.mk.injEq] at h1
    obtain ⟨rfl, hg1, hg2, hg3⟩ := h1
    obtain ⟨E1, hE1⟩ : ∃ E1, E1 = wordE k (sl bProject bParent) bGroup true isIdQ := ⟨_, rfl⟩
    obtain ⟨E2, hE2⟩ : ∃ E2, E2 = wordE k (sl bProject bParent) bArtifact true isIdQ := ⟨_, rfl⟩
    obtain ⟨E3, hE3⟩ : ∃ E3, E3 = wordE k (sl bProject bParent) bVersion true verQ := ⟨_, rfl⟩
    have HPE : Hid (parentE t bProject = E1.or (E2.or E3)) := by show _ = _; unfold parentE; rw [HMN.out, hO, hE1, hE2, hE3]; rfl
    have HRE : Hid ((∀ x, E1 = some x → readE t = some x) ∧ (∀ x, E1 = none → E2 = some x → readE t = some x) ∧ (∀ x, E1 = none → E2 = none → E3 = some x → readE t = some x)) :=
     ⟨fun x h => by rw [HE.out, n0.out, HPE.out, h]; rfl, fun x h h' => by rw [HE.out, n0.out, HPE.out, h, h']; rfl, fun x h h' h'' => by rw [HE.out, n0.out, HPE.out, h, h', h'']; rfl⟩
    have HMK := Lib.hid (HM.out.one hO)
    have HNK := Lib.hid hn
    have HEV : Hid (Value.agg #[.string s0, .slice b1 m1 c1, .slice b2 m2 c2, .string s3, .string s4] = elemV k av2 kv2 (sl bProject bParent)) := hev
    have HWA1 : Hid (∀ X, Below w.heap.size w1 X → Calls Tryz.prog 86 #[.agg #[.string s0, .slice b1 m1 c1, .slice b2 m2 c2, .string s3, .string s4], .string ⟨#[103, 114, 111, 117, 112, 73, 100]⟩, .bool true, .func (.func 53) #[] #[]] X fun e w' => Below X.heap.size X w' ∧ WdP E1 pg e) := fun X h => by
     rw [HEV.out, hE1, hg1]
     exact (wordQ_any _ _ _ k (sl bProject bParent) bGroup true X _ _ (HNK.out.keep (keptQ h h.size (fun k hk => by omega)) (fun _ _ h => h.elim)) HMK.out (by decide) (tests_id X)).mono fun e w' h => h.wd
    have HWA2 : Hid (∀ X, Below w.heap.size w1 X → Calls Tryz.prog 86 #[.agg #[.string s0, .slice b1 m1 c1, .slice b2 m2 c2, .string s3, .string s4], .string ⟨#[97, 114, 116, 105, 102, 97, 99, 116, 73, 100]⟩, .bool true, .func (.func 53) #[] #[]] X fun e w' => Below X.heap.size X w' ∧ WdP E2 pa e) := fun X h => by
     rw [HEV.out, hE2, hg2]
     exact (wordQ_any _ _ _ k (sl bProject bParent) bArtifact true X _ _ (HNK.out.keep (keptQ h h.size (fun k hk => by omega)) (fun _ _ h => h.elim)) HMK.out (by decide) (tests_id X)).mono fun e w' h => h.wd
    have HWA3 : Hid (∀ X, Below w.heap.size w1 X → Calls Tryz.prog 86 #[.agg #[.string s0, .slice b1 m1 c1, .slice b2 m2 c2, .string s3, .string s4], .string ⟨#[118, 101, 114, 115, 105, 111, 110]⟩, .bool true, .func (.func 54) #[] #[]] X fun e w' => Below X.heap.size X w' ∧ WdP E3 pn e) := fun X h => by
     rw [HEV.out, hE3, hg3]
     exact (wordQ_any _ _ _ k (sl bProject bParent) bVersion true X _ _ (HNK.out.keep (keptQ h h.size (fun k hk => by omega)) (fun _ _ h => h.elim)) HMK.out (by decide) (tests_ver X)).mono fun e w' h => h.wd
    clear hO hev hn hg1 hg2 hg3 hE1 hE2 hE3
    have d0 := HP.out.cell 0 _ rfl
    have df0 := HP.out.free 0
    have dl := HP.out.lt
    go_upto_region 8 with fail
    refine wp_world ?_
    intro W hW
    have x1 : Box W (w.heap.size + 1) [.bool true, .string ⟨#[]⟩, .string ⟨#[]⟩, .string ⟨#[]⟩, .string ⟨#[]⟩, .string ⟨#[]⟩, .string ⟨#[]⟩, .string ⟨#[]⟩, .slice none 0 0, .slice none 0 0, .slice none 0 0] := by rw [hW]; exact HP.out.set 0 _
    have hg : World.grownBy W2 W (some (w.heap.size + 1)) := by rw [hW]; exact setCell_grown _ (w.heap.size + 1) 0 _
    clear hW d0 df0 dl
    have HEN1 := Lib.hid (HEN.out.grown hg (by simp))
    have HWH1 := Lib.hid (HWH.out.grown hg (by simp))
    have HRT1 := Lib.hid (HRT.out.grown hg (by simp))
    have HB1 := Lib.hid (HB.out.trans (below_row hg (by omega) HB.out.size))
    have HF1 := Lib.hid (HF.out.grown hg (by have := HS1.out; simp; omega))
    have HBX := Lib.hid ((HB12.out.mono (by have := HS1.out; omega)).trans (below_row hg (by omega : w.heap.size ≤ w.heap.size + 1) HB.out.size))
    clear HP HEN HWH HRT HB hg
    have HP := Lib.hid x1
    have HEN := HEN1
    have HWH := HWH1
    have HRT := HRT1
    have HB := HB1
    clear x1 HEN1 HWH1 HRT1 HB1
    have HFX := HF1
    have HPV := HP
    have HEV := HEN
    have HHV := HWH
    have HBV := HB
    have HW1 : Hid (∀ X, Below W.heap.size W X → Calls Tryz.prog 86 #[.agg #[.string s0, .slice b1 m1 c1, .slice b2 m2 c2, .string s3, .string s4], .string ⟨#[103, 114, 111, 117, 112, 73, 100]⟩, .bool true, .func (.func 53) #[] #[]] X fun e w' => Below X.heap.size X w' ∧ WdP E1 pg e) := fun X h => HWA1.out X (HBX.out.trans (h.mono HB.out.size))
    have HW2 : Hid (∀ X, Below W.heap.size W X → Calls Tryz.prog 86 #[.agg #[.string s0, .slice b1 m1 c1, .slice b2 m2 c2, .string s3, .string s4], .string ⟨#[97, 114, 116, 105, 102, 97, 99, 116, 73, 100]⟩, .bool true, .func (.func 53) #[] #[]] X fun e w' => Below X.heap.size X w' ∧ WdP E2 pa e) := fun X h => HWA2.out X (HBX.out.trans (h.mono HB.out.size))
    have HW3 : Hid (∀ X, Below W.heap.size W X → Calls Tryz.prog 86 #[.agg #[.string s0, .slice b1 m1 c1, .slice b2 m2 c2, .string s3, .string s4], .string ⟨#[118, 101, 114, 115, 105, 111, 110]⟩, .bool true, .func (.func 54) #[] #[]] X fun e w' => Below X.heap.size X w' ∧ WdP E3 pn e) := fun X h => HWA3.out X (HBX.out.trans (h.mono HB.out.size))
    clear HWA1 HWA2 HWA3 HF1
    refine wp_region_flags0 (pqJ w.heap.size (.string s0) (.slice b1 m1 c1) (.slice b2 m2 c2) (.string s3) (.string s4) pg pa pn E1 E2 E3 W _ _ _ _ _ _ _ _ _ _ _ _ _ _ _ _ _ _ _ _ _ _ _ _ _ _ _ _ _ _ _ _ _ _ _ _ _ _ _ _ _ _ _ _ _ _ _ _ _ _ _ _ _ _ _ _) (by kernel_rfl) 9 rfl (by kernel_rfl) ⟨false, false, false, false, false, false, false, false, false, rfl, rfl, Lib.hid (by simp), Lib.hid (by simp), Lib.hid (by simp), Lib.hid (by simp), fun _ => belowN (Below.refl _ _) 1, by simp⟩ ?fin ?step
    case fin =>
     rintro a' w' ⟨f0, f1, f2, f3, f4, f5, f6, f7, f8, hl, rfl, a8, n1, n2, n3, hB, h8⟩
     have hl' : [true, true, true, true, true, true, true, true, true] = [f0, f1, f2, f3, f4, f5, f6, f7, f8] := congrArg Array.toList hl
     simp only [List.cons.injEq, and_true] at hl'
     obtain ⟨rfl, rfl, rfl, rfl, rfl, rfl, rfl, rfl, rfl⟩ := hl'
     unfold pqUpd
     simp only [cond_true]
     have HD8 := Lib.hid (h8 rfl)
     have HN3 := Lib.hid (n3.out rfl)
     clear a8 n1 n2 n3 hB h8
     go_wp2
     go_meet
     case rel =>
      obtain ⟨hp, w8, hb8, hg8⟩ := HD8.out
      obtain ⟨z1, z2, z3⟩ := HN3.out
      exact ⟨HBV.out.trans ((hb8.mono HBV.out.size).trans (below_row hg8 (by omega) (Nat.le_trans HBV.out.size hb8.size))), hp, (HEV.out.below hb8 HEV.out.lt).grown hg8 (by simp), (HHV.out.below hb8 HHV.out.lt).grown hg8 (by simp), (HRT.out.below hb8 HRT.out.lt).grown hg8 (by simp), by rw [HPE.out, z1, z2, z3]; rfl⟩
    case step =>
     rintro listed a' w' ⟨f0, f1, f2, f3, f4, f5, f6, f7, f8, rfl, rfl, a8, n1, n2, n3, hB, h8⟩ i hi
     rw [mem_ready] at hi
     obtain ⟨hu, o, ho, ha⟩ := hi
     have hi8 : i < 9 := (Array.getElem?_eq_some_iff.1 ho).1
     rcases (by omega : i = 0 ∨ i = 1 ∨ i = 2 ∨ i = 3 ∨ i = 4 ∨ i = 5 ∨ i = 6 ∨ i = 7 ∨ i = 8) with rfl | rfl | rfl | rfl | rfl | rfl | rfl | rfl | rfl
     · have ho' := ho
       simp at hu ho
       subst hu ho
       clear ha
       have e8 : f8 = false := false_of (fun h => (a8.out h).1) rfl
       subst e8
       have hB1 := hB rfl
       have hS1 := hB1.size
       have k0 := (hB1.cell (p := ⟨w1.heap.size, 0, none⟩) (by exact HFX.out.lt)).trans (HFX.out.cell 0 _ rfl)
       have k1 := (hB1.cell (p := ⟨w1.heap.size, 1, none⟩) (by exact HFX.out.lt)).trans (HFX.out.cell 1 _ rfl)
       have k2 := (hB1.cell (p := ⟨w1.heap.size, 2, none⟩) (by exact HFX.out.lt)).trans (HFX.out.cell 2 _ rfl)
       have k3 := (hB1.cell (p := ⟨w1.heap.size, 3, none⟩) (by exact HFX.out.lt)).trans (HFX.out.cell 3 _ rfl)
       have k4 := (hB1.cell (p := ⟨w1.heap.size, 4, none⟩) (by exact HFX.out.lt)).trans (HFX.out.cell 4 _ rfl)
       refine .inl ?_
       unfold pqUpd Oper.wp
       go_simp
       exact ⟨true, f1, f2, f3, f4, f5, f6, f7, false, rfl, rfl, Lib.hid (by simp), n1, n2, n3, hB, h8⟩
     · have ho' := ho
       simp at hu ho
       subst hu ho
       simp [Region.binds] at ha
       obtain rfl : f0 = true := by simp only [ha]
       clear ha
       have e8 : f8 = false := false_of (fun h => (a8.out h).2.1) rfl
       subst e8
       have hB1 := hB rfl
       have hS1 := hB1.size
       refine .inl ?_
       unfold pqUpd Oper.wp
       go_simp
       refine (HW1.out _ hB1).mono ?_
       rintro e w9 ⟨hb9, ⟨x, hM, rfl⟩ | ⟨hM, rfl⟩⟩
       · exact read_bad t x (HRE.out.1 x hM) w w9 _ _ _ _ _ _ _ _ _ _ _ _ _ _ rfl rfl rfl (HPV.out.below (hB1.trans (hb9.mono hS1)) HPV.out.lt) (HEV.out.below (hB1.trans (hb9.mono hS1)) HEV.out.lt) (HHV.out.below (hB1.trans (hb9.mono hS1)) HHV.out.lt) (HBV.out.trans ((hB1.trans (hb9.mono hS1)).mono HBV.out.size))
       exact ⟨true, true, f2, f3, f4, f5, f6, f7, false, rfl, rfl, Lib.hid (by simp), Lib.hid (fun _ => hM), n2, n3, fun _ => hB1.trans (hb9.mono hS1), by simp⟩
     · have ho' := ho
       simp at hu ho
       subst hu ho
       clear ha
       have e8 : f8 = false := false_of (fun h => (a8.out h).2.2.1) rfl
       subst e8
       have hB1 := hB rfl
       have hS1 := hB1.size
       have k0 := (hB1.cell (p := ⟨w1.heap.size, 0, none⟩) (by exact HFX.out.lt)).trans (HFX.out.cell 0 _ rfl)
       have k1 := (hB1.cell (p := ⟨w1.heap.size, 1, none⟩) (by exact HFX.out.lt)).trans (HFX.out.cell 1 _ rfl)
       have k2 := (hB1.cell (p := ⟨w1.heap.size, 2, none⟩) (by exact HFX.out.lt)).trans (HFX.out.cell 2 _ rfl)
       have k3 := (hB1.cell (p := ⟨w1.heap.size, 3, none⟩) (by exact HFX.out.lt)).trans (HFX.out.cell 3 _ rfl)
       have k4 := (hB1.cell (p := ⟨w1.heap.size, 4, none⟩) (by exact HFX.out.lt)).trans (HFX.out.cell 4 _ rfl)
       refine .inl ?_
       unfold pqUpd Oper.wp
       go_simp
       exact ⟨f0, f1, true, f3, f4, f5, f6, f7, false, rfl, rfl, Lib.hid (by simp), n1, n2, n3, hB, h8⟩
     · have ho' := ho
       simp at hu ho
       subst hu ho
       simp [Region.binds] at ha
       obtain rfl : f2 = true := by simp only [ha]
       obtain rfl : f1 = true := by simp only [ha]
       clear ha
       have e8 : f8 = false := false_of (fun h => (a8.out h).2.2.2.1) rfl
       subst e8
       have hB1 := hB rfl
       have hS1 := hB1.size
       refine .inl ?_
       unfold pqUpd Oper.wp
       go_simp
       refine (HW2.out _ hB1).mono ?_
       rintro e w9 ⟨hb9, ⟨x, hM, rfl⟩ | ⟨hM, rfl⟩⟩
       · exact read_bad t x (HRE.out.2.1 x (n1.out rfl) hM) w w9 _ _ _ _ _ _ _ _ _ _ _ _ _ _ rfl rfl rfl (HPV.out.below (hB1.trans (hb9.mono hS1)) HPV.out.lt) (HEV.out.below (hB1.trans (hb9.mono hS1)) HEV.out.lt) (HHV.out.below (hB1.trans (hb9.mono hS1)) HHV.out.lt) (HBV.out.trans ((hB1.trans (hb9.mono hS1)).mono HBV.out.size))
       exact ⟨f0, true, true, true, f4, f5, f6, f7, false, rfl, rfl, Lib.hid (by simp), n1, Lib.hid (fun _ => ⟨n1.out rfl, hM⟩), n3, fun _ => hB1.trans (hb9.mono hS1), by simp⟩
     · have ho' := ho
       simp at hu ho
       subst hu ho
       clear ha
       have e8 : f8 = false := false_of (fun h => (a8.out h).2.2.2.2.1) rfl
       subst e8
       have hB1 := hB rfl
       have hS1 := hB1.size
       have k0 := (hB1.cell (p := ⟨w1.heap.size, 0, none⟩) (by exact HFX.out.lt)).trans (HFX.out.cell 0 _ rfl)
       have k1 := (hB1.cell (p := ⟨w1.heap.size, 1, none⟩) (by exact HFX.out.lt)).trans (HFX.out.cell 1 _ rfl)
       have k2 := (hB1.cell (p := ⟨w1.heap.size, 2, none⟩) (by exact HFX.out.lt)).trans (HFX.out.cell 2 _ rfl)
       have k3 := (hB1.cell (p := ⟨w1.heap.size, 3, none⟩) (by exact HFX.out.lt)).trans (HFX.out.cell 3 _ rfl)
       have k4 := (hB1.cell (p := ⟨w1.heap.size, 4, none⟩) (by exact HFX.out.lt)).trans (HFX.out.cell 4 _ rfl)
       refine .inl ?_
       unfold pqUpd Oper.wp
       go_simp
       exact ⟨f0, f1, f2, f3, true, f5, f6, f7, false, rfl, rfl, Lib.hid (by simp), n1, n2, n3, hB, h8⟩
     · have ho' := ho
       simp at hu ho
       subst hu ho
       simp [Region.binds] at ha
       obtain rfl : f4 = true := by simp only [ha]
       obtain rfl : f3 = true := by simp only [ha]
       clear ha
       have e8 : f8 = false := false_of (fun h => (a8.out h).2.2.2.2.2) rfl
       subst e8
       have hB1 := hB rfl
       have hS1 := hB1.size
       refine .inl ?_
       unfold pqUpd Oper.wp
       go_simp
       refine (HW3.out _ hB1).mono ?_
       rintro e w9 ⟨hb9, ⟨x, hM, rfl⟩ | ⟨hM, rfl⟩⟩
       · exact read_bad t x (HRE.out.2.2 x (n2.out rfl).1 (n2.out rfl).2 hM) w w9 _ _ _ _ _ _ _ _ _ _ _ _ _ _ rfl rfl rfl (HPV.out.below (hB1.trans (hb9.mono hS1)) HPV.out.lt) (HEV.out.below (hB1.trans (hb9.mono hS1)) HEV.out.lt) (HHV.out.below (hB1.trans (hb9.mono hS1)) HHV.out.lt) (HBV.out.trans ((hB1.trans (hb9.mono hS1)).mono HBV.out.size))
       exact ⟨f0, f1, f2, true, true, true, f6, f7, false, rfl, rfl, Lib.hid (by simp), n1, n2, Lib.hid (fun _ => ⟨(n2.out rfl).1, (n2.out rfl).2, hM⟩), fun _ => hB1.trans (hb9.mono hS1), by simp⟩
     · have ho' := ho
       simp at hu ho
       subst hu ho
       simp [Region.binds] at ha
       obtain rfl : f1 = true := by simp only [ha]
       obtain rfl : f3 = true := by simp only [ha]
       obtain rfl : f5 = true := by simp only [ha]
       clear ha
       refine .inl ?_
       unfold pqUpd Oper.wp
       go_simp
       exact ⟨f0, true, f2, true, f4, true, true, f7, f8, rfl, rfl, a8, n1, n2, n3, hB, h8⟩
     · have ho' := ho
       simp at hu ho
       subst hu ho
       simp [Region.binds] at ha
       obtain rfl : f0 = true := by simp only [ha]
       obtain rfl : f1 = true := by simp only [ha]
       obtain rfl : f2 = true := by simp only [ha]
       obtain rfl : f3 = true := by simp only [ha]
       obtain rfl : f4 = true := by simp only [ha]
       obtain rfl : f5 = true := by simp only [ha]
       obtain rfl : f6 = true := by simp only [ha]
       clear ha
       refine .inl ?_
       unfold pqUpd Oper.wp
       go_simp
       exact ⟨true, true, true, true, true, true, true, true, f8, rfl, rfl, a8, n1, n2, n3, hB, h8⟩
     · have ho' := ho
       simp at hu ho
       subst hu ho
       simp [Region.binds] at ha
       obtain rfl : f7 = true := by simp only [ha]
       obtain rfl : f6 = true := by simp only [ha]
       obtain rfl : f5 = true := by simp only [ha]
       obtain rfl : f0 = true := by simp only [ha]
       obtain rfl : f1 = true := by simp only [ha]
       obtain rfl : f2 = true := by simp only [ha]
       obtain rfl : f3 = true := by simp only [ha]
       obtain rfl : f4 = true := by simp only [ha]
       clear ha
       have hB1 := hB rfl
       have hS1 := hB1.size
       have hp := HPV.out.below hB1 HPV.out.lt
       have z1 := hp.cell 1 _ rfl
       have z2 := hp.cell 2 _ rfl
       have z3 := hp.cell 3 _ rfl
       have u1 := hp.free 1
       have u2 := hp.free 2
       have u3 := hp.free 3
       have hl := hp.lt
       have HPN := Lib.hid (((hp.set 1 (.string pg)).set 2 (.string pa)).set 3 (.string pn))
       have HB1 := Lib.hid hB1
       clear hp hB1 hS1
       refine .inl ?_
       unfold pqUpd Oper.wp
       go_simp
       exact ⟨true, true, true, true, true, true, true, true, true, rfl, rfl, Lib.hid (by simp), n1, n2, n3, by simp, fun _ => ⟨HPN.out, w', HB1.out, ((setCell_grown _ _ _ _).trans (setCell_grown _ _ _ _)).trans (setCell_grown _ _ _ _)⟩⟩
  case rest =>
   have HB := Lib.hid hcut.out.1
   have HP := Lib.hid hcut.out.2.1
   have HEN := Lib.hid hcut.out.2.2.1
   have HWH := Lib.hid hcut.out.2.2.2.1
   have HRT := Lib.hid hcut.out.2.2.2.2.1
   have n1 := Lib.hid hcut.out.2.2.2.2.2
   clear hcut HF HB12 HS1 HNO HYES HMN
   obtain ⟨a0, a1, a2, a3, a4⟩ := bxc5 HRT.out
   have al := HRT.out.lt
   go_wp2_with fail
   refine (HWD2.out _ HB.out).mono ?_
   rintro e w1 ⟨hb1, hp1, hq⟩
   clear a0 a1 a2 a3 a4 al
   have HP1 := Lib.hid (HP.out.below hb1 HP.out.lt)
   have HEN1 := Lib.hid (HEN.out.below hb1 HEN.out.lt)
   have HWH1 := Lib.hid (HWH.out.below hb1 HWH.out.lt)
   have HRT1 := Lib.hid (HRT.out.below hb1 HRT.out.lt)
   have HB1 := Lib.hid (HB.out.trans (hb1.mono HB.out.size))
   clear HP HEN HWH HRT HB
   have HP := HP1
   have HEN := HEN1
   have HWH := HWH1
   have HRT := HRT1
   have HB := HB1
   clear HP1 HEN1 HWH1 HRT1 HB1
   rcases hM : wordE t bProject bGroup false freeB with _ | x
   rotate_left
   · obtain rfl := hp1 x hM
     have HR : Hid (readE t = some x) := by show _ = _; rw [HE.out, n0.out, Option.none_or, n1.out, Option.none_or, hM]; rfl
     clear hp1 hq hM HE HV
     unfold panE
     go_wp2
     exact read_bad t x HR.out w w1 _ _ _ _ _ _ _ _ _ _ _ _ _ _ rfl rfl rfl HP.out HEN.out HWH.out HB.out
   obtain rfl := hq hM
   have n2 := Lib.hid hM
   clear hp1 hq hM hb1 HWD2
   have d4 := HP.out.cell 4 _ rfl
   have df4 := HP.out.free 4
   have dl := HP.out.lt
   go_upto_region 10 with fail
   refine wp_world ?_
   intro W hW
   have x1 : Box W (w.heap.size + 1) [.bool hp, .string pg, .string pa, .string pn, .string (bs (wordV t bGroup)), .string ⟨#[]⟩, .string ⟨#[]⟩, .string ⟨#[]⟩, .slice none 0 0, .slice none 0 0, .slice none 0 0] := by rw [hW]; exact HP.out.set 4 _
   have hg : World.grownBy w1 W (some (w.heap.size + 1)) := by rw [hW]; exact setCell_grown _ (w.heap.size + 1) 4 _
   clear hW d4 df4 dl
   have HEN1 := Lib.hid (HEN.out.grown hg (by simp))
   have HWH1 := Lib.hid (HWH.out.grown hg (by simp))
   have HRT1 := Lib.hid (HRT.out.grown hg (by simp))
   have HB1 := Lib.hid (HB.out.trans (below_row hg (by omega) HB.out.size))
   clear HP HEN HWH HRT HB hg
   have HP := Lib.hid x1
   have HEN := HEN1
   have HWH := HWH1
   have HRT := HRT1
   have HB := HB1
   clear x1 HEN1 HWH1 HRT1 HB1
   obtain ⟨a0, a1, a2, a3, a4⟩ := bxc5 HRT.out
   have al := HRT.out.lt
   go_wp2_with fail
   refine (HWD3.out _ HB.out).mono ?_
   rintro e w1 ⟨hb1, hp1, hq⟩
   clear a0 a1 a2 a3 a4 al
   have HP1 := Lib.hid (HP.out.below hb1 HP.out.lt)
   have HEN1 := Lib.hid (HEN.out.below hb1 HEN.out.lt)
   have HWH1 := Lib.hid (HWH.out.below hb1 HWH.out.lt)
   have HRT1 := Lib.hid (HRT.out.below hb1 HRT.out.lt)
   have HB1 := Lib.hid (HB.out.trans (hb1.mono HB.out.size))
   clear HP HEN HWH HRT HB
   have HP := HP1
   have HEN := HEN1
   have HWH := HWH1
   have HRT := HRT1
   have HB := HB1
   clear HP1 HEN1 HWH1 HRT1 HB1
   rcases hM : wordE t bProject bArtifact true freeB with _ | x
   rotate_left
   · obtain rfl := hp1 x hM
     have HR : Hid (readE t = some x) := by show _ = _; rw [HE.out, n0.out, Option.none_or, n1.out, Option.none_or, n2.out, Option.none_or, hM]; rfl
     clear hp1 hq hM HE HV
     unfold panE
     go_wp2
     exact read_bad t x HR.out w w1 _ _ _ _ _ _ _ _ _ _ _ _ _ _ rfl rfl rfl HP.out HEN.out HWH.out HB.out
   obtain rfl := hq hM
   have n3 := Lib.hid hM
   clear hp1 hq hM hb1 HWD3
   have d5 := HP.out.cell 5 _ rfl
   have df5 := HP.out.free 5
   have dl := HP.out.lt
   go_upto_region 11 with fail
   refine wp_world ?_
   intro W hW
   have x1 : Box W (w.heap.size + 1) [.bool hp, .string pg, .string pa, .string pn, .string (bs (wordV t bGroup)), .string (bs (wordV t bArtifact)), .string ⟨#[]⟩, .string ⟨#[]⟩, .slice none 0 0, .slice none 0 0, .slice none 0 0] := by rw [hW]; exact HP.out.set 5 _
   have hg : World.grownBy w1 W (some (w.heap.size + 1)) := by rw [hW]; exact setCell_grown _ (w.heap.size + 1) 5 _
   clear hW d5 df5 dl
   have HEN1 := Lib.hid (HEN.out.grown hg (by simp))
   have HWH1 := Lib.hid (HWH.out.grown hg (by simp))
   have HRT1 := Lib.hid (HRT.out.grown hg (by simp))
   have HB1 := Lib.hid (HB.out.trans (below_row hg (by omega) HB.out.size))
   clear HP HEN HWH HRT HB hg
   have HP := Lib.hid x1
   have HEN := HEN1
   have HWH := HWH1
   have HRT := HRT1
   have HB := HB1
   clear x1 HEN1 HWH1 HRT1 HB1
   obtain ⟨a0, a1, a2, a3, a4⟩ := bxc5 HRT.out
   have al := HRT.out.lt
   go_wp2_with fail
   refine (HWD4.out _ HB.out).mono ?_
   rintro e w1 ⟨hb1, hp1, hq⟩
   clear a0 a1 a2 a3 a4 al
   have HP1 := Lib.hid (HP.out.below hb1 HP.out.lt)
   have HEN1 := Lib.hid (HEN.out.below hb1 HEN.out.lt)
   have HWH1 := Lib.hid (HWH.out.below hb1 HWH.out.lt)
   have HRT1 := Lib.hid (HRT.out.below hb1 HRT.out.lt)
   have HB1 := Lib.hid (HB.out.trans (hb1.mono HB.out.size))
   clear HP HEN HWH HRT HB
   have HP := HP1
   have HEN := HEN1
   have HWH := HWH1
   have HRT := HRT1
   have HB := HB1
   clear HP1 HEN1 HWH1 HRT1 HB1
   rcases hM : wordE t bProject bVersion false freeB with _ | x
   rotate_left
   · obtain rfl := hp1 x hM
     have HR : Hid (readE t = some x) := by show _ = _; rw [HE.out, n0.out, Option.none_or, n1.out, Option.none_or, n2.out, Option.none_or, n3.out, Option.none_or, hM]; rfl
     clear hp1 hq hM HE HV
     unfold panE
     go_wp2
     exact read_bad t x HR.out w w1 _ _ _ _ _ _ _ _ _ _ _ _ _ _ rfl rfl rfl HP.out HEN.out HWH.out HB.out
   obtain rfl := hq hM
   have n4 := Lib.hid hM
   clear hp1 hq hM hb1 HWD4
   have d6 := HP.out.cell 6 _ rfl
   have df6 := HP.out.free 6
   have dl := HP.out.lt
   go_upto_region 12 with fail
   refine wp_world ?_
   intro W hW
   have x1 : Box W (w.heap.size + 1) [.bool hp, .string pg, .string pa, .string pn, .string (bs (wordV t bGroup)), .string (bs (wordV t bArtifact)), .string (bs (wordV t bVersion)), .string ⟨#[]⟩, .slice none 0 0, .slice none 0 0, .slice none 0 0] := by rw [hW]; exact HP.out.set 6 _
   have hg : World.grownBy w1 W (some (w.heap.size + 1)) := by rw [hW]; exact setCell_grown _ (w.heap.size + 1) 6 _
   clear hW d6 df6 dl
   have HEN1 := Lib.hid (HEN.out.grown hg (by simp))
   have HWH1 := Lib.hid (HWH.out.grown hg (by simp))
   have HRT1 := Lib.hid (HRT.out.grown hg (by simp))
   have HB1 := Lib.hid (HB.out.trans (below_row hg (by omega) HB.out.size))
   clear HP HEN HWH HRT HB hg
   have HP := Lib.hid x1
   have HEN := HEN1
   have HWH := HWH1
   have HRT := HRT1
   have HB := HB1
   clear x1 HEN1 HWH1 HRT1 HB1
   obtain ⟨a0, a1, a2, a3, a4⟩ := bxc5 HRT.out
   have al := HRT.out.lt
   go_wp2_with fail
   refine (HWD5.out _ HB.out).mono ?_
   rintro e w1 ⟨hb1, hp1, hq⟩
   clear a0 a1 a2 a3 a4 al
   have HP1 := Lib.hid (HP.out.below hb1 HP.out.lt)
   have HEN1 := Lib.hid (HEN.out.below hb1 HEN.out.lt)
   have HWH1 := Lib.hid (HWH.out.below hb1 HWH.out.lt)
   have HRT1 := Lib.hid (HRT.out.below hb1 HRT.out.lt)
   have HB1 := Lib.hid (HB.out.trans (hb1.mono HB.out.size))
   clear HP HEN HWH HRT HB
   have HP := HP1
   have HEN := HEN1
   have HWH := HWH1
   have HRT := HRT1
   have HB := HB1
   clear HP1 HEN1 HWH1 HRT1 HB1
   rcases hM : wordE t bProject bPackaging false freeB with _ | x
   rotate_left
   · obtain rfl := hp1 x hM
     have HR : Hid (readE t = some x) := by show _ = _; rw [HE.out, n0.out, Option.none_or, n1.out, Option.none_or, n2.out, Option.none_or, n3.out, Option.none_or, n4.out, Option.none_or, hM]; rfl
     clear hp1 hq hM HE HV
     unfold panE
     go_wp2
     exact read_bad t x HR.out w w1 _ _ _ _ _ _ _ _ _ _ _ _ _ _ rfl rfl rfl HP.out HEN.out HWH.out HB.out
   obtain rfl := hq hM
   have n5 := Lib.hid hM
   clear hp1 hq hM hb1 HWD5
   have d7 := HP.out.cell 7 _ rfl
   have df7 := HP.out.free 7
   have dl := HP.out.lt
   go_upto_region 13 with fail
   refine wp_world ?_
   intro W hW
   have x1 : Box W (w.heap.size + 1) [.bool hp, .string pg, .string pa, .string pn, .string (bs (wordV t bGroup)), .string (bs (wordV t bArtifact)), .string (bs (wordV t bVersion)), .string (bs (wordV t bPackaging)), .slice none 0 0, .slice none 0 0, .slice none 0 0] := by rw [hW]; exact HP.out.set 7 _
   have hg : World.grownBy w1 W (some (w.heap.size + 1)) := by rw [hW]; exact setCell_grown _ (w.heap.size + 1) 7 _
   clear hW d7 df7 dl
   have HEN1 := Lib.hid (HEN.out.grown hg (by simp))
   have HWH1 := Lib.hid (HWH.out.grown hg (by simp))
   have HRT1 := Lib.hid (HRT.out.grown hg (by simp))
   have HB1 := Lib.hid (HB.out.trans (below_row hg (by omega) HB.out.size))
   clear HP HEN HWH HRT HB hg
   have HP := Lib.hid x1
   have HEN := HEN1
   have HWH := HWH1
   have HRT := HRT1
   have HB := HB1
   clear x1 HEN1 HWH1 HRT1 HB1
   obtain ⟨a0, a1, a2, a3, a4⟩ := bxc5 HRT.out
   have al := HRT.out.lt
   go_wp2_with fail
   refine (HPR.out _ HB.out).mono ?_
   rintro e w1 ⟨hb1, hp1, hq⟩
   clear a0 a1 a2 a3 a4 al
   have HP1 := Lib.hid (HP.out.below hb1 HP.out.lt)
   have HEN1 := Lib.hid (HEN.out.below hb1 HEN.out.lt)
   have HWH1 := Lib.hid (HWH.out.below hb1 HWH.out.lt)
   have HRT1 := Lib.hid (HRT.out.below hb1 HRT.out.lt)
   have HB1 := Lib.hid (HB.out.trans (hb1.mono HB.out.size))
   have HSW : Hid (w.heap.size + 4 < W.heap.size) := HRT.out.lt
   clear HP HEN HWH HRT HB
   have HP := HP1
   have HEN := HEN1
   have HWH := HWH1
   have HRT := HRT1
   have HB := HB1
   clear HP1 HEN1 HWH1 HRT1 HB1
   rcases hM : propsE t bProject with _ | x
   rotate_left
   · obtain rfl := hp1 x hM
     have HR : Hid (readE t = some x) := by show _ = _; rw [HE.out, n0.out, Option.none_or, n1.out, Option.none_or, n2.out, Option.none_or, n3.out, Option.none_or, n4.out, Option.none_or, n5.out, Option.none_or, hM]; rfl
     clear hp1 hq hM HE HV
     unfold panE
     go_wp2
     exact read_bad t x HR.out w w1 _ _ _ _ _ _ _ _ _ _ _ _ _ _ rfl rfl rfl HP.out HEN.out HWH.out HB.out
   obtain ⟨pv, rfl, hpo⟩ := hq hM
   obtain ⟨po, pc, rfl⟩ := hpo.shape
   generalize hpl : (propsV t).length = pl at *
   have HPO := Lib.hid (hpo.base_mono (show w.heap.size + 4 ≤ W.heap.size by have := HSW.out; omega))
   have n6 := Lib.hid hM
   clear hp1 hq hM hb1 HPR hpo hpl HSW
   have d8 := HP.out.cell 8 _ rfl
   have df8 := HP.out.free 8
   have dl := HP.out.lt
   go_upto_region 14 with fail
   refine wp_world ?_
   intro W hW
   have x1 : Box W (w.heap.size + 1) [.bool hp, .string pg, .string pa, .string pn, .string (bs (wordV t bGroup)), .string (bs (wordV t bArtifact)), .string (bs (wordV t bVersion)), .string (bs (wordV t bPackaging)), .slice po pl pc, .slice none 0 0, .slice none 0 0] := by rw [hW]; exact HP.out.set 8 _
   have hg : World.grownBy w1 W (some (w.heap.size + 1)) := by rw [hW]; exact setCell_grown _ (w.heap.size + 1) 8 _
   clear hW d8 df8 dl
   have HEN1 := Lib.hid (HEN.out.grown hg (by simp))
   have HWH1 := Lib.hid (HWH.out.grown hg (by simp))
   have HRT1 := Lib.hid (HRT.out.grown hg (by simp))
   have HB1 := Lib.hid (HB.out.trans (below_row hg (by omega) HB.out.size))
   have HPO1 := Lib.hid (HPO.out.keptR hg (by omega))
   clear HPO
   have HPO := HPO1
   clear HPO1
   clear HP HEN HWH HRT HB hg
   have HP := Lib.hid x1
   have HEN := HEN1
   have HWH := HWH1
   have HRT := HRT1
   have HB := HB1
   clear x1 HEN1 HWH1 HRT1 HB1
   obtain ⟨a0, a1, a2, a3, a4⟩ := bxc5 HRT.out
   have al := HRT.out.lt
   go_wp2_with fail
   refine (HMF.out _ HB.out).mono ?_
   rintro e w1 ⟨hb1, hp1, hq⟩
   clear a0 a1 a2 a3 a4 al
   have HP1 := Lib.hid (HP.out.below hb1 HP.out.lt)
   have HEN1 := Lib.hid (HEN.out.below hb1 HEN.out.lt)
   have HWH1 := Lib.hid (HWH.out.below hb1 HWH.out.lt)
   have HRT1 := Lib.hid (HRT.out.below hb1 HRT.out.lt)
   have HB1 := Lib.hid (HB.out.trans (hb1.mono HB.out.size))
   have HPO1 := Lib.hid (HPO.out.below hb1)
   clear HPO
   have HPO := HPO1
   clear HPO1
   clear HP HEN HWH HRT HB
   have HP := HP1
   have HEN := HEN1
   have HWH := HWH1
   have HRT := HRT1
   have HB := HB1
   clear HP1 HEN1 HWH1 HRT1 HB1
   rcases hM : manyE t bProject bManagement with _ | x
   rotate_left
   · obtain rfl := hp1 x hM
     have HR : Hid (readE t = some x) := by show _ = _; rw [HE.out, n0.out, Option.none_or, n1.out, Option.none_or, n2.out, Option.none_or, n3.out, Option.none_or, n4.out, Option.none_or, n5.out, Option.none_or, n6.out, Option.none_or]; unfold managedE; rw [hM]; rfl
     clear hp1 hq hM HE HV
     unfold panE
     go_wp2
     exact read_bad t x HR.out w w1 _ _ _ _ _ _ _ _ _ _ _ _ _ _ rfl rfl rfl HP.out HEN.out HWH.out HB.out
   have hq := hq hM
   have HMN := Lib.hid hM
   clear hp1 hM hb1 HMF
   rcases hO : oneV t bManagement with _ | k
   · rw [hO] at hq
     simp only [FieldX] at hq
     subst hq
     have n7 : Hid (managedE t bProject = none) := by show _ = _; unfold managedE; rw [HMN.out, hO]; rfl
     have HMV : Hid (managedV t = []) := by show _ = _; unfold managedV; rw [hO]
     have HMO : Hid (DepsOwn (w.heap.size + 4) w1 (.slice none 0 0) [] []) := DepsOwn.nil _ _
     clear hO HMN
     go_upto_region 17 with fail
     refine wp_world ?_
     intro W2 hW2
     have hb2 : Below w1.heap.size w1 W2 := by rw [hW2]; exact (Below.refl _ _).alloc (Nat.le_refl _) _
     clear hW2
     have HP1 := Lib.hid (HP.out.below hb2 HP.out.lt)
     have HEN1 := Lib.hid (HEN.out.below hb2 HEN.out.lt)
     have HWH1 := Lib.hid (HWH.out.below hb2 HWH.out.lt)
     have HRT1 := Lib.hid (HRT.out.below hb2 HRT.out.lt)
     have HB1 := Lib.hid (HB.out.trans (hb2.mono HB.out.size))
     have HPO1 := Lib.hid (HPO.out.below hb2)
     have HMO1 := Lib.hid (HMO.out.below hb2)
     clear HPO HMO
     have HPO := HPO1
     have HMO := HMO1
     clear HPO1 HMO1
     clear HP HEN HWH HRT HB
     have HP := HP1
     have HEN := HEN1
     have HWH := HWH1
     have HRT := HRT1
     have HB := HB1
     clear HP1 HEN1 HWH1 HRT1 HB1
     clear hb2
     obtain ⟨a0, a1, a2, a3, a4⟩ := bxc5 HRT.out
     have al := HRT.out.lt
     go_wp2_with fail
     refine (HDP.out _ HB.out).mono ?_
     rintro e w1 ⟨hb1, hp1, hq⟩
     clear a0 a1 a2 a3 a4 al
     have HP1 := Lib.hid (HP.out.below hb1 HP.out.lt)
     have HEN1 := Lib.hid (HEN.out.below hb1 HEN.out.lt)
     have HWH1 := Lib.hid (HWH.out.below hb1 HWH.out.lt)
     have HRT1 := Lib.hid (HRT.out.below hb1 HRT.out.lt)
     have HB1 := Lib.hid (HB.out.trans (hb1.mono HB.out.size))
     have HPO1 := Lib.hid (HPO.out.below hb1)
     have HMO1 := Lib.hid (HMO.out.below hb1)
     have HSW : Hid (w.heap.size + 4 < W2.heap.size) := HRT.out.lt
     clear HPO HMO
     have HPO := HPO1
     have HMO := HMO1
     clear HPO1 HMO1
     clear HP HEN HWH HRT HB
     have HP := HP1
     have HEN := HEN1
     have HWH := HWH1
     have HRT := HRT1
     have HB := HB1
     clear HP1 HEN1 HWH1 HRT1 HB1
     rcases hM : depsE false t bProject with _ | x
     rotate_left
     · obtain rfl := hp1 x hM
       have HR : Hid (readE t = some x) := by show _ = _; rw [HE.out, n0.out, Option.none_or, n1.out, Option.none_or, n2.out, Option.none_or, n3.out, Option.none_or, n4.out, Option.none_or, n5.out, Option.none_or, n6.out, Option.none_or, n7.out, Option.none_or, hM]
       clear hp1 hq hM HE HV
       unfold panE
       go_wp2
       exact read_bad t x HR.out w w1 _ _ _ _ _ _ _ _ _ _ _ _ _ _ rfl rfl rfl HP.out HEN.out HWH.out HB.out
     obtain ⟨dv, DL, rfl, hdo⟩ := hq hM
     obtain ⟨do1, dc1, hdv⟩ := hdo.row.shape
     subst hdv
     generalize hdl : DL.length = dn at *
     have HDO := Lib.hid (hdo.base_mono (show w.heap.size + 4 ≤ W2.heap.size by have := HSW.out; omega))
     have n8 := Lib.hid hM
     clear hp1 hq hM hb1 HDP hdo hdl HSW
     have d10 := HP.out.cell 10 _ rfl
     have df10 := HP.out.free 10
     have dl := HP.out.lt
     go_upto_region 18 with fail
     refine wp_world ?_
     intro W hW
     have x1 : Box W (w.heap.size + 1) [.bool hp, .string pg, .string pa, .string pn, .string (bs (wordV t bGroup)), .string (bs (wordV t bArtifact)), .string (bs (wordV t bVersion)), .string (bs (wordV t bPackaging)), .slice po pl pc, .slice none 0 0, .slice do1 dn dc1] := by rw [hW]; exact HP.out.set 10 _
     have hg : World.grownBy w1 W (some (w.heap.size + 1)) := by rw [hW]; exact setCell_grown _ (w.heap.size + 1) 10 _
     clear hW d10 df10 dl
     have HEN1 := Lib.hid (HEN.out.grown hg (by simp))
     have HWH1 := Lib.hid (HWH.out.grown hg (by simp))
     have HRT1 := Lib.hid (HRT.out.grown hg (by simp))
     have HB1 := Lib.hid (HB.out.trans (below_row hg (by omega) HB.out.size))
     have HPO1 := Lib.hid (HPO.out.keptR hg (by omega))
     have HMO1 := Lib.hid (HMO.out.keptR hg (by omega))
     have HDO1 := Lib.hid (HDO.out.keptR hg (by omega))
     clear HPO HMO HDO
     have HPO := HPO1
     have HMO := HMO1
     have HDO := HDO1
     clear HPO1 HMO1 HDO1
     clear HP HEN HWH HRT HB hg
     have HP := Lib.hid x1
     have HEN := HEN1
     have HWH := HWH1
     have HRT := HRT1
     have HB := HB1
     clear x1 HEN1 HWH1 HRT1 HB1
     have d0 := HEN.out.cell 0 _ rfl
     have df0 := HEN.out.free 0
     have dl0 := HEN.out.lt
     have q0 := HWH.out.cell 0 _ rfl
     have qf0 := HWH.out.free 0
     have ql0 := HWH.out.lt
     go_wp2_with (first | ((with_reducible show wpList _ _ _ (Oper.mk _ (Op.load 48 (.tmp 2)) _ _ _ _ :: _) _ _); refine wpList_load_box rfl 48 (.tmp 2) rfl (w.heap.size + 1) [.bool hp, .string pg, .string pa, .string pn, .string (bs (wordV t bGroup)), .string (bs (wordV t bArtifact)), .string (bs (wordV t bVersion)), .string (bs (wordV t bPackaging)), .slice po pl pc, .slice none 0 0, .slice do1 dn dc1] rfl HP.out Tryz.underlying48 rfl size_pomQ ?_) | ((with_reducible show wpList _ _ _ (Oper.mk none (Op.store 48 (.tmp 2) (.tmp 63)) _ _ _ _ :: _) _ _); refine wpList_store_box rfl 48 (.tmp 2) (.tmp 63) rfl (w.heap.size + 1) [.bool hp, .string pg, .string pa, .string pn, .string (bs (wordV t bGroup)), .string (bs (wordV t bArtifact)), .string (bs (wordV t bVersion)), .string (bs (wordV t bPackaging)), .slice po pl pc, .slice none 0 0, .slice do1 dn dc1] [.bool hp, .string pg, .string pa, .string pn, .string (bs (wordV t bGroup)), .string (bs (wordV t bArtifact)), .string (bs (wordV t bVersion)), .string (bs (wordV t bPackaging)), .slice po pl pc, .slice none 0 0, .slice do1 dn dc1] rfl rfl HP.out rfl size_pomQ (by simp [Value.oneCell']) ?_; intro W10 v10 hg10; have HV10 := Lib.hid v10; have HG10 := Lib.hid hg10; clear v10 hg10 d0 df0 dl0 q0 qf0 ql0; have HE10 := Lib.hid (HEN.out.grown HG10.out (by simp)); have HW10 := Lib.hid (HWH.out.grown HG10.out (by simp)); have d0 := HE10.out.cell 0 _ rfl; have df0 := HE10.out.free 0; have dl0 := HE10.out.lt; have q0 := HW10.out.cell 0 _ rfl; have qf0 := HW10.out.free 0; have ql0 := HW10.out.lt))
     clear d0 df0 dl0 q0 qf0 ql0
     have ga := setCell_grown W10 (w.heap.size + 1 + 1) 0 (.int .i64 0)
     have gb := setCell_grown (W10.setCell ⟨w.heap.size + 1 + 1, 0, none⟩ (.int .i64 0)) (w.heap.size + 1 + 1 + 1) 0 (.string ⟨#[]⟩)
     have hx1 := (HV10.out.grown ga (by simp)).grown gb (by simp)
     have hx2 := (HE10.out.set 0 (.int .i64 0)).grown gb (by simp)
     have hx3 := (HW10.out.grown ga (by simp)).set 0 (.string ⟨#[]⟩)
     have hpo := (((HPO.out.keptR HG10.out (by omega)).keptR ga (by omega)).keptR gb (by omega)).base_mono (show w.heap.size ≤ w.heap.size + 4 by omega)
     have hmo := (((HMO.out.keptR HG10.out (by omega)).keptR ga (by omega)).keptR gb (by omega)).base_mono (show w.heap.size ≤ w.heap.size + 4 by omega)
     have hdo := (((HDO.out.keptR HG10.out (by omega)).keptR ga (by omega)).keptR gb (by omega)).base_mono (show w.heap.size ≤ w.heap.size + 4 by omega)
     have hB0 := HB.out.trans (below_row HG10.out (by omega) HB.out.size)
     have hB1 := hB0.trans (below_row ga (by omega) hB0.size)
     have hB2 := hB1.trans (below_row gb (by omega) hB1.size)
     clear ga gb hB0 hB1 HV10 HE10 HW10 HG10 HP HEN HWH HRT HB HPO HMO HDO
     generalize ((W10.setCell ⟨w.heap.size + 1 + 1, 0, none⟩ (.int .i64 0)).setCell ⟨w.heap.size + 1 + 1 + 1, 0, none⟩ (.string ⟨#[]⟩)) = W3 at *
     refine leaves_cons (f := 83) (args := #[.pointer (some ⟨w.heap.size + 1, 0, none⟩), .pointer (some ⟨w.heap.size + 2, 0, none⟩), .pointer (some ⟨w.heap.size + 3, 0, none⟩)]) (by simp) (by simp [go_sem]) ?_
     refine (readCatch_idle _ _ _ _).mono ?_
     rintro e u' w4 ⟨rfl, rfl, rfl⟩
     obtain ⟨b0, b1, b2, b3, b4, b5, b6, b7, b8, b9, b10⟩ := bxc11 hx1
     have bl := hx1.lt
     have b11 := hx2.cell 0 _ rfl
     have b12 := hx3.cell 0 _ rfl
     have hRE : readE t = none := by rw [HE.out, n0.out, Option.none_or, n1.out, Option.none_or, n2.out, Option.none_or, n3.out, Option.none_or, n4.out, Option.none_or, n5.out, Option.none_or, n6.out, Option.none_or, n7.out, Option.none_or, n8.out]
     refine ⟨.tuple #[.agg #[.bool hp, .string pg, .string pa, .string pn, .string (bs (wordV t bGroup)), .string (bs (wordV t bArtifact)), .string (bs (wordV t bVersion)), .string (bs (wordV t bPackaging)), .slice po pl pc, .slice none 0 0, .slice do1 dn dc1], .int .i64 0, .string ⟨#[]⟩], ?_, hB2, fun x hx => ?_, fun _ => ?_⟩
     · simp [results, Tryz.results50, go_sem, b0, b1, b2, b3, b4, b5, b6, b7, b8, b9, b10, b11, b12]
     · rw [hRE] at hx; cases hx
     · refine ⟨.slice po pl pc, .slice none 0 0, .slice do1 dn dc1, ?_, ?_, ?_, ?_⟩
       · rw [HV.out, ← HPV.out]
         rfl
       · rw [HV.out]; exact hpo
       · rw [HV.out]; exact ⟨_, by rw [HMV.out]; exact hmo⟩
       · rw [HV.out]; exact ⟨_, hdo⟩
   · rw [hO] at hq
     obtain ⟨av2, kv2, rfl, hn⟩ := hq
     obtain ⟨p1, p2, p3, p4, rfl, rfl, -, -⟩ := hn.shape
     have hmk := HM.out.one hO
     have HMD : Hid (∀ X, Below w1.heap.size w1 X → Calls Tryz.prog 89 #[.agg #[.string (bs k.name), .slice p1 k.attrs.length p2, .slice p3 k.kids.length p4, .string (bs k.text), .string (bs (sl bProject bManagement))], .bool true] X (Ret (depsE true k (sl bProject bManagement)) (DepsP X (depsV k)) X)) := fun X h => depsQ_any true k (sl bProject bManagement) X _ _ (hn.later h) hmk (by decide)
     have HME : Hid (managedE t bProject = depsE true k (sl bProject bManagement)) := by show _ = _; unfold managedE; rw [HMN.out, hO]; rfl
     have HMV1 : Hid (managedV t = depsV k) := by show _ = _; unfold managedV; rw [hO]
     have HSW : Hid (w.heap.size + 4 < w1.heap.size) := HRT.out.lt
     clear hO HMN hn hmk
     unfold elemV
     go_upto_region 16 with fail
     refine wp_world ?_
     intro W2 hW2
     have x5 : Box W2 w1.heap.size [.string (bs k.name), .slice p1 k.attrs.length p2, .slice p3 k.kids.length p4, .string (bs k.text), .string (bs (sl bProject bManagement))] := by rw [hW2]; exact Box.new w1 [.string (bs k.name), .slice p1 k.attrs.length p2, .slice p3 k.kids.length p4, .string (bs k.text), .string (bs (sl bProject bManagement))] _ _ rfl
     have hb2 : Below w1.heap.size w1 W2 := by rw [hW2]; exact (Below.refl _ _).alloc (Nat.le_refl _) _
     clear hW2
     have HF := Lib.hid x5
     have HB12 := Lib.hid hb2
     clear x5
     have HP1 := Lib.hid (HP.out.below hb2 HP.out.lt)
     have HEN1 := Lib.hid (HEN.out.below hb2 HEN.out.lt)
     have HWH1 := Lib.hid (HWH.out.below hb2 HWH.out.lt)
     have HRT1 := Lib.hid (HRT.out.below hb2 HRT.out.lt)
     have HB1 := Lib.hid (HB.out.trans (hb2.mono HB.out.size))
     have HPO1 := Lib.hid (HPO.out.below hb2)
     clear HPO
     have HPO := HPO1
     clear HPO1
     clear HP HEN HWH HRT HB
     have HP := HP1
     have HEN := HEN1
     have HWH := HWH1
     have HRT := HRT1
     have HB := HB1
     clear HP1 HEN1 HWH1 HRT1 HB1
     obtain ⟨a0, a1, a2, a3, a4⟩ := bxc5 HF.out
     have al := HF.out.lt
     clear hb2
     go_wp2_with fail
     refine (HMD.out _ HB12.out).mono ?_
     rintro e w3 ⟨hb1, hp1, hq⟩
     clear a0 a1 a2 a3 a4 al HMD
     have HP1 := Lib.hid (HP.out.below hb1 HP.out.lt)
     have HEN1 := Lib.hid (HEN.out.below hb1 HEN.out.lt)
     have HWH1 := Lib.hid (HWH.out.below hb1 HWH.out.lt)
     have HRT1 := Lib.hid (HRT.out.below hb1 HRT.out.lt)
     have HB1 := Lib.hid (HB.out.trans (hb1.mono HB.out.size))
     have HPO1 := Lib.hid (HPO.out.below hb1)
     have HS12 := Lib.hid (Nat.le_trans (Nat.le_of_lt HSW.out) HB12.out.size)
     clear HPO
     have HPO := HPO1
     clear HPO1
     clear HP HEN HWH HRT HB
     have HP := HP1
     have HEN := HEN1
     have HWH := HWH1
     have HRT := HRT1
     have HB := HB1
     clear HP1 HEN1 HWH1 HRT1 HB1
     rcases hM : depsE true k (sl bProject bManagement) with _ | x
     rotate_left
     · obtain rfl := hp1 x hM
       have HR : Hid (readE t = some x) := by show _ = _; rw [HE.out, n0.out, Option.none_or, n1.out, Option.none_or, n2.out, Option.none_or, n3.out, Option.none_or, n4.out, Option.none_or, n5.out, Option.none_or, n6.out, Option.none_or, HME.out, hM]; rfl
       clear hp1 hq hM HE HV
       unfold panE
       go_wp2
       exact read_bad t x HR.out w w3 _ _ _ _ _ _ _ _ _ _ _ _ _ _ rfl rfl rfl HP.out HEN.out HWH.out HB.out
     obtain ⟨mv, ML, rfl, hmo⟩ := hq hM
     obtain ⟨mo1, mc1, hmv⟩ := hmo.row.shape
     subst hmv
     generalize hml : ML.length = mn at *
     have HMO := Lib.hid (hmo.base_mono (show w.heap.size + 4 ≤ W2.heap.size by have := HS12.out; omega))
     have n7 : Hid (managedE t bProject = none) := by show _ = _; rw [HME.out, hM]
     have HMV := HMV1
     clear hp1 hq hM hb1 hmo hml HSW HS12 HME HF HB12
     have d9 := HP.out.cell 9 _ rfl
     have df9 := HP.out.free 9
     have dl := HP.out.lt
     go_upto_region 17 with fail
     refine wp_world ?_
     intro W hW
     have x1 : Box W (w.heap.size + 1) [.bool hp, .string pg, .string pa, .string pn, .string (bs (wordV t bGroup)), .string (bs (wordV t bArtifact)), .string (bs (wordV t bVersion)), .string (bs (wordV t bPackaging)), .slice po pl pc, .slice mo1 mn mc1, .slice none 0 0] := by rw [hW]; exact HP.out.set 9 _
     have hg : World.grownBy w3 W (some (w.heap.size + 1)) := by rw [hW]; exact setCell_grown _ (w.heap.size + 1) 9 _
     clear hW d9 df9 dl
     have HEN1 := Lib.hid (HEN.out.grown hg (by simp))
     have HWH1 := Lib.hid (HWH.out.grown hg (by simp))
     have HRT1 := Lib.hid (HRT.out.grown hg (by simp))
     have HB1 := Lib.hid (HB.out.trans (below_row hg (by omega) HB.out.size))
     have HPO1 := Lib.hid (HPO.out.keptR hg (by omega))
     have HMO1 := Lib.hid (HMO.out.keptR hg (by omega))
     clear HPO HMO
     have HPO := HPO1
     have HMO := HMO1
     clear HPO1 HMO1
     clear HP HEN HWH HRT HB hg
     have HP := Lib.hid x1
     have HEN := HEN1
     have HWH := HWH1
     have HRT := HRT1
     have HB := HB1
     clear x1 HEN1 HWH1 HRT1 HB1
     obtain ⟨a0, a1, a2, a3, a4⟩ := bxc5 HRT.out
     have al := HRT.out.lt
     go_wp2_with fail
     refine (HDP.out _ HB.out).mono ?_
     rintro e w1 ⟨hb1, hp1, hq⟩
     clear a0 a1 a2 a3 a4 al
     have HP1 := Lib.hid (HP.out.below hb1 HP.out.lt)
     have HEN1 := Lib.hid (HEN.out.below hb1 HEN.out.lt)
     have HWH1 := Lib.hid (HWH.out.below hb1 HWH.out.lt)
     have HRT1 := Lib.hid (HRT.out.below hb1 HRT.out.lt)
     have HB1 := Lib.hid (HB.out.trans (hb1.mono HB.out.size))
     have HPO1 := Lib.hid (HPO.out.below hb1)
     have HMO1 := Lib.hid (HMO.out.below hb1)
     have HSW : Hid (w.heap.size + 4 < W.heap.size) := HRT.out.lt
     clear HPO HMO
     have HPO := HPO1
     have HMO := HMO1
     clear HPO1 HMO1
     clear HP HEN HWH HRT HB
     have HP := HP1
     have HEN := HEN1
     have HWH := HWH1
     have HRT := HRT1
     have HB := HB1
     clear HP1 HEN1 HWH1 HRT1 HB1
     rcases hM : depsE false t bProject with _ | x
     rotate_left
     · obtain rfl := hp1 x hM
       have HR : Hid (readE t = some x) := by show _ = _; rw [HE.out, n0.out, Option.none_or, n1.out, Option.none_or, n2.out, Option.none_or, n3.out, Option.none_or, n4.out, Option.none_or, n5.out, Option.none_or, n6.out, Option.none_or, n7.out, Option.none_or, hM]
       clear hp1 hq hM HE HV
       unfold panE
       go_wp2
       exact read_bad t x HR.out w w1 _ _ _ _ _ _ _ _ _ _ _ _ _ _ rfl rfl rfl HP.out HEN.out HWH.out HB.out
     obtain ⟨dv, DL, rfl, hdo⟩ := hq hM
     obtain ⟨do1, dc1, hdv⟩ := hdo.row.shape
     subst hdv
     generalize hdl : DL.length = dn at *
     have HDO := Lib.hid (hdo.base_mono (show w.heap.size + 4 ≤ W.heap.size by have := HSW.out; omega))
     have n8 := Lib.hid hM
     clear hp1 hq hM hb1 HDP hdo hdl HSW
     have d10 := HP.out.cell 10 _ rfl
     have df10 := HP.out.free 10
     have dl := HP.out.lt
     go_upto_region 18 with fail
     refine wp_world ?_
     intro W hW
     have x1 : Box W (w.heap.size + 1) [.bool hp, .string pg, .string pa, .string pn, .string (bs (wordV t bGroup)), .string (bs (wordV t bArtifact)), .string (bs (wordV t bVersion)), .string (bs (wordV t bPackaging)), .slice po pl pc, .slice mo1 mn mc1, .slice do1 dn dc1] := by rw [hW]; exact HP.out.set 10 _
     have hg : World.grownBy w1 W (some (w.heap.size + 1)) := by rw [hW]; exact setCell_grown _ (w.heap.size + 1) 10 _
     clear hW d10 df10 dl
     have HEN1 := Lib.hid (HEN.out.grown hg (by simp))
     have HWH1 := Lib.hid (HWH.out.grown hg (by simp))
     have HRT1 := Lib.hid (HRT.out.grown hg (by simp))
     have HB1 := Lib.hid (HB.out.trans (below_row hg (by omega) HB.out.size))
     have HPO1 := Lib.hid (HPO.out.keptR hg (by omega))
     have HMO1 := Lib.hid (HMO.out.keptR hg (by omega))
     have HDO1 := Lib.hid (HDO.out.keptR hg (by omega))
     clear HPO HMO HDO
     have HPO := HPO1
     have HMO := HMO1
     have HDO := HDO1
     clear HPO1 HMO1 HDO1
     clear HP HEN HWH HRT HB hg
     have HP := Lib.hid x1
     have HEN := HEN1
     have HWH := HWH1
     have HRT := HRT1
     have HB := HB1
     clear x1 HEN1 HWH1 HRT1 HB1
     have d0 := HEN.out.cell 0 _ rfl
     have df0 := HEN.out.free 0
     have dl0 := HEN.out.lt
     have q0 := HWH.out.cell 0 _ rfl
     have qf0 := HWH.out.free 0
     have ql0 := HWH.out.lt
     go_wp2_with (first | ((with_reducible show wpList _ _ _ (Oper.mk _ (Op.load 48 (.tmp 2)) _ _ _ _ :: _) _ _); refine wpList_load_box rfl 48 (.tmp 2) rfl (w.heap.size + 1) [.bool hp, .string pg, .string pa, .string pn, .string (bs (wordV t bGroup)), .string (bs (wordV t bArtifact)), .string (bs (wordV t bVersion)), .string (bs (wordV t bPackaging)), .slice po pl pc, .slice mo1 mn mc1, .slice do1 dn dc1] rfl HP.out Tryz.underlying48 rfl size_pomQ ?_) | ((with_reducible show wpList _ _ _ (Oper.mk none (Op.store 48 (.tmp 2) (.tmp 63)) _ _ _ _ :: _) _ _); refine wpList_store_box rfl 48 (.tmp 2) (.tmp 63) rfl (w.heap.size + 1) [.bool hp, .string pg, .string pa, .string pn, .string (bs (wordV t bGroup)), .string (bs (wordV t bArtifact)), .string (bs (wordV t bVersion)), .string (bs (wordV t bPackaging)), .slice po pl pc, .slice mo1 mn mc1, .slice do1 dn dc1] [.bool hp, .string pg, .string pa, .string pn, .string (bs (wordV t bGroup)), .string (bs (wordV t bArtifact)), .string (bs (wordV t bVersion)), .string (bs (wordV t bPackaging)), .slice po pl pc, .slice mo1 mn mc1, .slice do1 dn dc1] rfl rfl HP.out rfl size_pomQ (by simp [Value.oneCell']) ?_; intro W10 v10 hg10; have HV10 := Lib.hid v10; have HG10 := Lib.hid hg10; clear v10 hg10 d0 df0 dl0 q0 qf0 ql0; have HE10 := Lib.hid (HEN.out.grown HG10.out (by simp)); have HW10 := Lib.hid (HWH.out.grown HG10.out (by simp)); have d0 := HE10.out.cell 0 _ rfl; have df0 := HE10.out.free 0; have dl0 := HE10.out.lt; have q0 := HW10.out.cell 0 _ rfl; have qf0 := HW10.out.free 0; have ql0 := HW10.out.lt))
     clear d0 df0 dl0 q0 qf0 ql0
     have ga := setCell_grown W10 (w.heap.size + 1 + 1) 0 (.int .i64 0)
     have gb := setCell_grown (W10.setCell ⟨w.heap.size + 1 + 1, 0, none⟩ (.int .i64 0)) (w.heap.size + 1 + 1 + 1) 0 (.string ⟨#[]⟩)
     have hx1 := (HV10.out.grown ga (by simp)).grown gb (by simp)
     have hx2 := (HE10.out.set 0 (.int .i64 0)).grown gb (by simp)
     have hx3 := (HW10.out.grown ga (by simp)).set 0 (.string ⟨#[]⟩)
     have hpo := (((HPO.out.keptR HG10.out (by omega)).keptR ga (by omega)).keptR gb (by omega)).base_mono (show w.heap.size ≤ w.heap.size + 4 by omega)
     have hmo := (((HMO.out.keptR HG10.out (by omega)).keptR ga (by omega)).keptR gb (by omega)).base_mono (show w.heap.size ≤ w.heap.size + 4 by omega)
     have hdo := (((HDO.out.keptR HG10.out (by omega)).keptR ga (by omega)).keptR gb (by omega)).base_mono (show w.heap.size ≤ w.heap.size + 4 by omega)
     have hB0 := HB.out.trans (below_row HG10.out (by omega) HB.out.size)
     have hB1 := hB0.trans (below_row ga (by omega) hB0.size)
     have hB2 := hB1.trans (below_row gb (by omega) hB1.size)
     clear ga gb hB0 hB1 HV10 HE10 HW10 HG10 HP HEN HWH HRT HB HPO HMO HDO
     generalize ((W10.setCell ⟨w.heap.size + 1 + 1, 0, none⟩ (.int .i64 0)).setCell ⟨w.heap.size + 1 + 1 + 1, 0, none⟩ (.string ⟨#[]⟩)) = W3 at *
     refine leaves_cons (f := 83) (args := #[.pointer (some ⟨w.heap.size + 1, 0, none⟩), .pointer (some ⟨w.heap.size + 2, 0, none⟩), .pointer (some ⟨w.heap.size + 3, 0, none⟩)]) (by simp) (by simp [go_sem]) ?_
     refine (readCatch_idle _ _ _ _).mono ?_
     rintro e u' w4 ⟨rfl, rfl, rfl⟩
     obtain ⟨b0, b1, b2, b3, b4, b5, b6, b7, b8, b9, b10⟩ := bxc11 hx1
     have bl := hx1.lt
     have b11 := hx2.cell 0 _ rfl
     have b12 := hx3.cell 0 _ rfl
     have hRE : readE t = none := by rw [HE.out, n0.out, Option.none_or, n1.out, Option.none_or, n2.out, Option.none_or, n3.out, Option.none_or, n4.out, Option.none_or, n5.out, Option.none_or, n6.out, Option.none_or, n7.out, Option.none_or, n8.out]
     refine ⟨.tuple #[.agg #[.bool hp, .string pg, .string pa, .string pn, .string (bs (wordV t bGroup)), .string (bs (wordV t bArtifact)), .string (bs (wordV t bVersion)), .string (bs (wordV t bPackaging)), .slice po pl pc, .slice mo1 mn mc1, .slice do1 dn dc1], .int .i64 0, .string ⟨#[]⟩], ?_, hB2, fun x hx => ?_, fun _ => ?_⟩
     · simp [results, Tryz.results50, go_sem, b0, b1, b2, b3, b4, b5, b6, b7, b8, b9, b10, b11, b12]
     · rw [hRE] at hx; cases hx
     · refine ⟨.slice po pl pc, .slice mo1 mn mc1, .slice do1 dn dc1, ?_, ?_, ?_, ?_⟩
       · rw [HV.out, ← HPV.out]
         rfl
       · rw [HV.out]; exact hpo
       · rw [HV.out]; exact ⟨_, by rw [HMV.out]; exact hmo⟩
       · rw [HV.out]; exact ⟨_, hdo⟩
theorem readQ_any (t : Tr) (w : World) (av kv : Value) (ht : NodeOf w t av kv) (hm : Mild t) :
    Calls Tryz.prog 50 #[.agg #[.string (bs t.name), av, kv, .string (bs t.text)]] w (ReadOut t w) := readW_any t w av kv ht hm.weak

end Go.Proofs.YtphaeegbmfpcgaaGreatDoor
