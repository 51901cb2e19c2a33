/- The walk of the law PomStays; the conditions stand in the theorem. -/
import Derived.Test.YtbbbfjcikhpmbaaGreatJF24
import Derived.Test.YtbbbfjcikhpmbaaGreatJF11
import Derived.Test.YtbbbfjcikhpmbaaGreatJF18
import Derived.ProofKit
import Derived.Deep.Slices
import Derived.Test.YtbbbfjcikhpmbaaGreatJF06
import Derived.Test.YtbbbfjcikhpmbaaGreatJF04
import Derived.Test.YtbbbfjcikhpmbaaGreatRows
import Derived.Test.YtbbbfjcikhpmbaaGreatJF03
import Derived.Test.YtbbbfjcikhpmbaaGreatShelf
import Derived.WalkKit
import Derived.OpenShut
import Derived.HandedShaped

namespace Go.Proofs.YtbbbfjcikhpmbaaGreat
open Go Go.RowKit

def pom0 : Pom := ⟨false, ⟨⟨#[]⟩, ⟨#[]⟩, ⟨#[]⟩⟩, ⟨#[]⟩, ⟨#[]⟩, ⟨#[]⟩, ⟨#[]⟩, [], [], []⟩
theorem pom0_of (w : World) : PomOf w (.agg (pomC pom0 (.slice none 0 0) (.slice none 0 0) (.slice none 0 0)).toArray) pom0 (.slice none 0 0) (.slice none 0 0) (.slice none 0 0) :=
 ⟨rfl, (Owns.nil (base := 0) (E := 0)).slice prpC_len2, ⟨[], rfl, (Owns.nil (base := 0) (E := 0)).slice depC_len8, fun _ h => by cases h⟩, ⟨[], rfl, (Owns.nil (base := 0) (E := 0)).slice depC_len8, fun _ h => by cases h⟩⟩
/-- What was read may be, and is not too great. -/
theorem stay_ok {t : Tr} (h1 : LightT t) (h2 : MayT t) (h3 : readE t = none) : mayP (readV t) = true ∧ PomLt (readV t) := by
 have h := read_may h2.1 h3
 exact ⟨h, mayP_lt h h1.names⟩
set_option maxRecDepth 100000 in
set_option maxHeartbeats 16000000 in
theorem pomStaysLaw_any (t : Tr) (av kv : Value) (mx : Int) (w : World) (hn : NodeOf w t av kv) (hm : w.cell? ⟨0, 0, none⟩ = some (.int .i64 mx)) :
    Calls Tryz.prog 8 #[nodeV t av kv] w fun e w' => e = .returned (.bool true) ∧ Below w.heap.size w w' := by
 have hw0 : 0 < w.heap.size := World.block_lt_of_cell? w _ hm
 obtain ⟨ao, ac, kb, kc, rfl, rfl, -, -⟩ := hn.shape
 unfold nodeV
 obtain ⟨N, hN⟩ : ∃ N, N = bs t.name := ⟨_, rfl⟩
 obtain ⟨X, hX⟩ : ∃ X, X = bs t.text := ⟨_, rfl⟩
 obtain ⟨p, hp⟩ : ∃ p, p = readV t := ⟨_, rfl⟩
 obtain ⟨T, hT⟩ : ∃ T, T = writeT p := ⟨_, rfl⟩
 obtain ⟨N2, hN2⟩ : ∃ N, N = bs T.name := ⟨_, rfl⟩
 obtain ⟨X2, hX2⟩ : ∃ X, X = bs T.text := ⟨_, rfl⟩
 obtain ⟨G, hG⟩ : ∃ G : Prop, G = (LightT t ∧ MayT t ∧ readE t = none) := ⟨_, rfl⟩
 have HG : G → mayP p = true ∧ PomLt p := fun h => by rw [hG] at h; rw [hp]; exact stay_ok h.1 h.2.1 h.2.2
 have HLV : Hid (∀ W, Below w.heap.size w W → Calls Tryz.prog 12 #[] W fun e w' => e = .returned (.bool true) ∧ Below W.heap.size W w') := fun W h => pomLives_any mx W ((h.cell (by exact hw0)).trans hm)
 have HL1 : Hid (∀ W, Below w.heap.size w W → Calls Tryz.prog 11 #[.agg #[.string N, .slice ao t.attrs.length ac, .slice kb t.kids.length kc, .string X]] W fun e w' => Below W.heap.size W w' ∧ ∃ b : Bool, e = .returned (.bool b) ∧ (b = true → LightT t ∧ t.cnt ≤ 300)) := fun W h => by
  rw [hN, hX]; exact lightTop_any t W _ _ (hn.later h)
 have HMY : Hid (LightT t ∧ t.cnt ≤ 300 → ∀ W, Below w.heap.size w W → Calls Tryz.prog 26 #[.agg #[.string N, .slice ao t.attrs.length ac, .slice kb t.kids.length kc, .string X]] W (Says (MayT t) W)) := fun hL W h => by
  rw [hN, hX]; exact refMay_any t W _ _ (hn.later h) hL.1.fine (by omega)
 have HRE : Hid (LightT t ∧ t.cnt ≤ 300 → MayT t → ∀ W, Below w.heap.size w W → Calls Tryz.prog 13 #[.agg #[.string N, .slice ao t.attrs.length ac, .slice kb t.kids.length kc, .string X]] W fun e w' => (∃ (k : Int) (s : S), (k = 20 ∨ k = 2) ∧ e = .returned (.tuple #[.agg #[.bool false, .string ⟨#[]⟩, .string ⟨#[]⟩, .string ⟨#[]⟩, .string ⟨#[]⟩, .string ⟨#[]⟩, .string ⟨#[]⟩, .string ⟨#[]⟩, .slice none 0 0, .slice none 0 0, .slice none 0 0], .int .i64 k, .string s]) ∧ Below W.heap.size W w') ∨ (G ∧ ReadG p W e w')) := fun hL hM W h => by
  rw [hN, hX]
  refine (readQ_any t W _ _ (hn.later h) hL.1.mild).mono fun e w' hO => ?_
  cases hE : readE t with
  | some x => exact .inl ⟨x.1, bs x.2, er2_read t x hE, hO.2.1 x hE, hO.1⟩
  | none => exact .inr ⟨by rw [hG]; exact ⟨hL.1, hM, hE⟩, hO.good hp.symm hE⟩
 have HSZ : Hid (∀ W, Calls Tryz.prog 15 #[.agg #[.bool false, .string ⟨#[]⟩, .string ⟨#[]⟩, .string ⟨#[]⟩, .string ⟨#[]⟩, .string ⟨#[]⟩, .string ⟨#[]⟩, .string ⟨#[]⟩, .slice none 0 0, .slice none 0 0, .slice none 0 0], .agg #[.bool false, .string ⟨#[]⟩, .string ⟨#[]⟩, .string ⟨#[]⟩, .string ⟨#[]⟩, .string ⟨#[]⟩, .string ⟨#[]⟩, .string ⟨#[]⟩, .slice none 0 0, .slice none 0 0, .slice none 0 0]] W fun e w' => e = .returned (.bool true) ∧ Below W.heap.size W w') := fun W => by
  have h1 := sameX_any pom0 pom0 _ _ _ _ _ _ W (pom0_of W) (pom0_of W) (fun _ h => by cases h) (fun _ h => by cases h) (fun _ h => by cases h) (fun _ h => by cases h)
  rwa [decide_eq_true rfl] at h1
 have HWR : Hid (G → ∀ base W a1 a4 a2 a5 a3 a6, PomOwn base W p (.slice a1 p.props.length a4) (.slice a2 p.managed.length a5) (.slice a3 p.deps.length a6) → Calls Tryz.prog 18 #[.agg #[.bool p.hasParent, .string p.parent.group, .string p.parent.artifact, .string p.parent.version, .string p.group, .string p.artifact, .string p.version, .string p.packaging, .slice a1 p.props.length a4, .slice a2 p.managed.length a5, .slice a3 p.deps.length a6]] W (WriteG N2 X2 T W)) := fun g base W a1 a4 a2 a5 a3 a6 ho => by
  rw [hN2, hX2, hT]
  have hL := (HG g).2
  exact (writeQ_any p _ _ _ W ho.of hL.n1 hL.n2 hL.n3 (fun d hd => (hL.man d hd).excl) (fun d hd => (hL.dep d hd).excl)).mono fun e w' hO => hO.good
 have HRD : Hid (G → ∀ W av kv, NodeOf W T av kv → Calls Tryz.prog 13 #[.agg #[.string N2, av, kv, .string X2]] W (ReadG p W)) := fun g W av kv h => by
  have h1 := readQ_any T W av kv h (hT ▸ mild_write (HG g).2)
  rw [hN2, hX2]
  exact h1.mono fun e w' hO => hO.good (by rw [hT]; exact (write_read (HG g).1).1) (by rw [hT]; exact (write_read (HG g).1).2)
 have HM1 : Hid (G → ∀ base W a1 a4 a2 a5 a3 a6, PomOwn base W p (.slice a1 p.props.length a4) (.slice a2 p.managed.length a5) (.slice a3 p.deps.length a6) → Calls Tryz.prog 24 #[.agg #[.bool p.hasParent, .string p.parent.group, .string p.parent.artifact, .string p.parent.version, .string p.group, .string p.artifact, .string p.version, .string p.packaging, .slice a1 p.props.length a4, .slice a2 p.managed.length a5, .slice a3 p.deps.length a6]] W fun e w' => e = .returned (.bool true) ∧ Below W.heap.size W w') := fun g base W a1 a4 a2 a5 a3 a6 ho => by
  have h1 := pomMay_any p _ _ _ W ho.of (HG g).2.small
  rwa [(HG g).1] at h1
 have HM2 : Hid (G → ∀ base W a1 a4 a2 a5 a3 a6, PomOwn base W p (.slice a1 p.props.length a4) (.slice a2 p.managed.length a5) (.slice a3 p.deps.length a6) → Calls Tryz.prog 20 #[.agg #[.bool p.hasParent, .string p.parent.group, .string p.parent.artifact, .string p.parent.version, .string p.group, .string p.artifact, .string p.version, .string p.packaging, .slice a1 p.props.length a4, .slice a2 p.managed.length a5, .slice a3 p.deps.length a6]] W fun e w' => e = .returned (.bool true) ∧ Below W.heap.size W w') := fun g base W a1 a4 a2 a5 a3 a6 ho => by
  have h1 := mayPD_any p _ _ _ W ho.of (HG g).2.small
  rwa [(HG g).1] at h1
 have HSM : Hid (G → ∀ base W a1 a4 a2 a5 a3 a6 b1 b4 b2 b5 b3 b6 base2, PomOwn base W p (.slice a1 p.props.length a4) (.slice a2 p.managed.length a5) (.slice a3 p.deps.length a6) → PomOwn base2 W p (.slice b1 p.props.length b4) (.slice b2 p.managed.length b5) (.slice b3 p.deps.length b6) → Calls Tryz.prog 15 #[.agg #[.bool p.hasParent, .string p.parent.group, .string p.parent.artifact, .string p.parent.version, .string p.group, .string p.artifact, .string p.version, .string p.packaging, .slice a1 p.props.length a4, .slice a2 p.managed.length a5, .slice a3 p.deps.length a6], .agg #[.bool p.hasParent, .string p.parent.group, .string p.parent.artifact, .string p.parent.version, .string p.group, .string p.artifact, .string p.version, .string p.packaging, .slice b1 p.props.length b4, .slice b2 p.managed.length b5, .slice b3 p.deps.length b6]] W fun e w' => e = .returned (.bool true) ∧ Below W.heap.size W w') := fun g base W a1 a4 a2 a5 a3 a6 b1 b4 b2 b5 b3 b6 base2 ho ho2 => by
  have hL := (HG g).2
  have x1 : ∀ d ∈ p.managed, d.excl.length ≤ 140737488355328 := fun d hd => Nat.le_trans (hL.man d hd).excl (by decide)
  have x2 : ∀ d ∈ p.deps, d.excl.length ≤ 140737488355328 := fun d hd => Nat.le_trans (hL.dep d hd).excl (by decide)
  have h1 := sameX_any p p _ _ _ _ _ _ W ho.of ho2.of x1 x2 x1 x2
  rwa [decide_eq_true rfl] at h1
 rw [← hN, ← hX]
 clear HG hG hm hw0 hn hT hN hX hN2 hX2 hp
 obtain ⟨LT, hLT⟩ : ∃ Y : Prop, Y = (LightT t ∧ t.cnt ≤ 300) := ⟨_, rfl⟩
 rw [← hLT] at HL1 HMY HRE
 obtain ⟨MT, hMT⟩ : ∃ Y : Prop, Y = MayT t := ⟨_, rfl⟩
 rw [← hMT] at HMY HRE
 clear hLT hMT
 generalize t.attrs.length = an at *
 generalize t.kids.length = kn at *
 clear t
 unfold WriteG at HWR
 unfold ReadG at HRE HRD
 generalize T.kids.length = TN at *
 obtain ⟨NO, hNO⟩ : ∃ Y : World → Value → Value → Prop, Y = fun W => NodeOf W T := ⟨_, rfl⟩
 have HNK : Hid (∀ W W' av kv, NO W av kv → Below W.heap.size W W' → NO W' av kv) := fun W W' av kv h hb => by subst hNO; exact h.later hb
 obtain ⟨PO, hPO⟩ : ∃ Y : Nat → World → Value → Value → Value → Prop, Y = fun b W => PomOwn b W p := ⟨_, rfl⟩
 have HPK : Hid (∀ b W W' x y z, PO b W x y z → Below W.heap.size W W' → PO b W' x y z) := fun b W W' x y z h hb => by subst hPO; exact h.below hb
 replace HRE : Hid (LT → MT → ∀ W, Below w.heap.size w W → Calls Tryz.prog 13 #[.agg #[.string N, .slice ao an ac, .slice kb kn kc, .string X]] W fun e w' => (∃ (k : Int) (s : S), (k = 20 ∨ k = 2) ∧ e = .returned (.tuple #[.agg #[.bool false, .string ⟨#[]⟩, .string ⟨#[]⟩, .string ⟨#[]⟩, .string ⟨#[]⟩, .string ⟨#[]⟩, .string ⟨#[]⟩, .string ⟨#[]⟩, .slice none 0 0, .slice none 0 0, .slice none 0 0], .int .i64 k, .string s]) ∧ Below W.heap.size W w') ∨ (G ∧ ∃ (a1 : Option Addr) (a4 : Nat) (a2 : Option Addr) (a5 : Nat) (a3 : Option Addr) (a6 : Nat), e = .returned (.tuple #[.agg #[.bool p.hasParent, .string p.parent.group, .string p.parent.artifact, .string p.parent.version, .string p.group, .string p.artifact, .string p.version, .string p.packaging, .slice a1 p.props.length a4, .slice a2 p.managed.length a5, .slice a3 p.deps.length a6], .int .i64 0, .string ⟨#[]⟩]) ∧ PO W.heap.size w' (.slice a1 p.props.length a4) (.slice a2 p.managed.length a5) (.slice a3 p.deps.length a6) ∧ Below W.heap.size W w')) := by subst hPO; exact HRE
 replace HRD : Hid (G → ∀ W av kv, NO W av kv → Calls Tryz.prog 13 #[.agg #[.string N2, av, kv, .string X2]] W fun e w' => ∃ (a1 : Option Addr) (a4 : Nat) (a2 : Option Addr) (a5 : Nat) (a3 : Option Addr) (a6 : Nat), e = .returned (.tuple #[.agg #[.bool p.hasParent, .string p.parent.group, .string p.parent.artifact, .string p.parent.version, .string p.group, .string p.artifact, .string p.version, .string p.packaging, .slice a1 p.props.length a4, .slice a2 p.managed.length a5, .slice a3 p.deps.length a6], .int .i64 0, .string ⟨#[]⟩]) ∧ PO W.heap.size w' (.slice a1 p.props.length a4) (.slice a2 p.managed.length a5) (.slice a3 p.deps.length a6) ∧ Below W.heap.size W w') := by subst hPO; subst hNO; exact HRD
 replace HWR : Hid (G → ∀ base W a1 a4 a2 a5 a3 a6, PO base W (.slice a1 p.props.length a4) (.slice a2 p.managed.length a5) (.slice a3 p.deps.length a6) → Calls Tryz.prog 18 #[.agg #[.bool p.hasParent, .string p.parent.group, .string p.parent.artifact, .string p.parent.version, .string p.group, .string p.artifact, .string p.version, .string p.packaging, .slice a1 p.props.length a4, .slice a2 p.managed.length a5, .slice a3 p.deps.length a6]] W fun e w' => ∃ (ko : Option Addr) (kc : Nat), e = .returned (.agg #[.string N2, .slice none 0 0, .slice ko TN kc, .string X2]) ∧ NO w' (.slice none 0 0) (.slice ko TN kc) ∧ Below W.heap.size W w') := by subst hPO; subst hNO; exact HWR
 replace HM1 : Hid (G → ∀ base W a1 a4 a2 a5 a3 a6, PO base W (.slice a1 p.props.length a4) (.slice a2 p.managed.length a5) (.slice a3 p.deps.length a6) → Calls Tryz.prog 24 #[.agg #[.bool p.hasParent, .string p.parent.group, .string p.parent.artifact, .string p.parent.version, .string p.group, .string p.artifact, .string p.version, .string p.packaging, .slice a1 p.props.length a4, .slice a2 p.managed.length a5, .slice a3 p.deps.length a6]] W fun e w' => e = .returned (.bool true) ∧ Below W.heap.size W w') := by subst hPO; exact HM1
 replace HM2 : Hid (G → ∀ base W a1 a4 a2 a5 a3 a6, PO base W (.slice a1 p.props.length a4) (.slice a2 p.managed.length a5) (.slice a3 p.deps.length a6) → Calls Tryz.prog 20 #[.agg #[.bool p.hasParent, .string p.parent.group, .string p.parent.artifact, .string p.parent.version, .string p.group, .string p.artifact, .string p.version, .string p.packaging, .slice a1 p.props.length a4, .slice a2 p.managed.length a5, .slice a3 p.deps.length a6]] W fun e w' => e = .returned (.bool true) ∧ Below W.heap.size W w') := by subst hPO; exact HM2
 replace HSM : Hid (G → ∀ base W a1 a4 a2 a5 a3 a6 b1 b4 b2 b5 b3 b6 base2, PO base W (.slice a1 p.props.length a4) (.slice a2 p.managed.length a5) (.slice a3 p.deps.length a6) → PO base2 W (.slice b1 p.props.length b4) (.slice b2 p.managed.length b5) (.slice b3 p.deps.length b6) → Calls Tryz.prog 15 #[.agg #[.bool p.hasParent, .string p.parent.group, .string p.parent.artifact, .string p.parent.version, .string p.group, .string p.artifact, .string p.version, .string p.packaging, .slice a1 p.props.length a4, .slice a2 p.managed.length a5, .slice a3 p.deps.length a6], .agg #[.bool p.hasParent, .string p.parent.group, .string p.parent.artifact, .string p.parent.version, .string p.group, .string p.artifact, .string p.version, .string p.packaging, .slice b1 p.props.length b4, .slice b2 p.managed.length b5, .slice b3 p.deps.length b6]] W fun e w' => e = .returned (.bool true) ∧ Below W.heap.size W w') := by subst hPO; exact HSM
 clear hNO hPO
 obtain ⟨dh, ⟨dx, dy, dz⟩, dg, da, dv, dk, dp, dm, dd⟩ := p
 simp only at HRE HRD HWR HM1 HM2 HSM
 generalize dp.length = lp at *
 generalize dm.length = lm at *
 generalize dd.length = ld at *
 go_enter Tryz.func8, Tryz.ntmps8
 go_upto_region 1 with fail
 refine wp_world ?_
 intro W hW
 have x1 : Box W w.heap.size [.string N, .slice ao an ac, .slice kb kn kc, .string X] := by rw [hW]; exact Box.new w [.string N, .slice ao an ac, .slice kb kn kc, .string X] _ _ rfl
 have hb : Below w.heap.size w W := by rw [hW]; exact (Below.refl _ w).alloc (Nat.le_refl _) _
 clear hW
 have HA := Lib.hid x1
 have HB := Lib.hid hb
 clear x1 hb
 obtain ⟨c0, c1, c2, c3⟩ := bxc4 HA.out
 have cl := HA.out.lt
 go_wp2_with fail
 refine (HL1.out _ HB.out).mono ?_
 rintro e w1 ⟨hb1, b, rfl, hbt⟩
 have HBT := Lib.hid hbt
 have HA1 := Lib.hid (HA.out.below hb1 HA.out.lt)
 have HB1 := Lib.hid (HB.out.trans (hb1.mono HB.out.size))
 clear hbt hb1 HA HB HL1 c0 c1 c2 c3 cl
 cases b with
 | false =>
  go_wp2_with fail
  refine (HLV.out _ HB1.out).mono ?_
  rintro e w8 ⟨rfl, hb8⟩
  have HB8 := Lib.hid (HB1.out.trans (hb8.mono HB1.out.size))
  clear hb8 HLV
  go_wp2
  go_ret
  exact ⟨rfl, HB8.out⟩
 | true =>
  have HLP := Lib.hid (HBT.out rfl)
  clear HBT
  obtain ⟨c0, c1, c2, c3⟩ := bxc4 HA1.out
  have cl := HA1.out.lt
  go_wp2_with fail
  refine (HMY.out HLP.out _ HB1.out).mono ?_
  intro e w2 hO
  obtain ⟨z, rfl, hmt, hb2⟩ := hO
  have HMT := Lib.hid hmt
  have HA2 := Lib.hid (HA1.out.below hb2 HA1.out.lt)
  have HB2 := Lib.hid (HB1.out.trans (hb2.mono HB1.out.size))
  clear hmt hb2 HA1 HB1 HMY c0 c1 c2 c3 cl
  cases z with
  | false =>
   go_wp2_with fail
   refine (HLV.out _ HB2.out).mono ?_
   rintro e w8 ⟨rfl, hb8⟩
   have HB8 := Lib.hid (HB2.out.trans (hb8.mono HB2.out.size))
   clear hb8 HLV
   go_wp2
   go_ret
   exact ⟨rfl, HB8.out⟩
  | true =>
   have HM0 := Lib.hid (HMT.out.1 rfl)
   clear HMT
   obtain ⟨c0, c1, c2, c3⟩ := bxc4 HA2.out
   have cl := HA2.out.lt
   go_wp2_with fail
   refine (HRE.out HLP.out HM0.out _ HB2.out).mono ?_
   intro e w3 hO
   rcases hO with ⟨k, sx, hk, rfl, hb3⟩ | ⟨hg, t1, t4, t2, t5, t3, t6, rfl, hp3, hb3⟩
   case inl =>
    have HB3 := Lib.hid (HB2.out.trans (hb3.mono HB2.out.size))
    clear hb3 HA2 HB2 HRE c0 c1 c2 c3 cl
    rcases hk with rfl | rfl
    all_goals
     go_upto_region 4 with fail
     refine wp_world ?_
     intro W4 hW4
     have x4 : Box W4 w3.heap.size [.bool false, .string ⟨#[]⟩, .string ⟨#[]⟩, .string ⟨#[]⟩, .string ⟨#[]⟩, .string ⟨#[]⟩, .string ⟨#[]⟩, .string ⟨#[]⟩, .slice none 0 0, .slice none 0 0, .slice none 0 0] := by rw [hW4]; exact Box.new w3 [.bool false, .string ⟨#[]⟩, .string ⟨#[]⟩, .string ⟨#[]⟩, .string ⟨#[]⟩, .string ⟨#[]⟩, .string ⟨#[]⟩, .string ⟨#[]⟩, .slice none 0 0, .slice none 0 0, .slice none 0 0] _ _ rfl
     have hb4 : Below w3.heap.size w3 W4 := by rw [hW4]; exact (Below.refl _ w3).alloc (Nat.le_refl _) _
     clear hW4
     have HQ4 := Lib.hid x4
     have HB4 := Lib.hid (HB3.out.trans (hb4.mono HB3.out.size))
     clear x4 hb4 HB3
     obtain ⟨d0, d1, d2, d3, d4, d5, d6, d7, d8, d9, d10⟩ := bxc11 HQ4.out
     have dl := HQ4.out.lt
     go_wp2_with fail
     refine (HSZ.out _).mono ?_
     rintro e w5 ⟨rfl, hb5⟩
     have HB5 := Lib.hid (HB4.out.trans (hb5.mono HB4.out.size))
     clear hb5 HB4 HQ4 d0 d1 d2 d3 d4 d5 d6 d7 d8 d9 d10 dl
     go_wp2_with fail
     refine (HLV.out _ HB5.out).mono ?_
     rintro e w8 ⟨rfl, hb8⟩
     have HB8 := Lib.hid (HB5.out.trans (hb8.mono HB5.out.size))
     clear hb8 HLV
     go_wp2
     go_ret
     exact ⟨rfl, HB8.out⟩
   have HG := Lib.hid hg
   have HB3 := Lib.hid (HB2.out.trans (hb3.mono HB2.out.size))
   have HP3 := Lib.hid hp3
   clear hg hp3 hb3 HA2 HB2 HRE c0 c1 c2 c3 cl
   go_upto_region 4 with fail
   refine wp_world ?_
   intro W4 hW4
   have x4 : Box W4 w3.heap.size [.bool dh, .string dx, .string dy, .string dz, .string dg, .string da, .string dv, .string dk, .slice t1 lp t4, .slice t2 lm t5, .slice t3 ld t6] := by rw [hW4]; exact Box.new w3 [.bool dh, .string dx, .string dy, .string dz, .string dg, .string da, .string dv, .string dk, .slice t1 lp t4, .slice t2 lm t5, .slice t3 ld t6] _ _ rfl
   have hb4 : Below w3.heap.size w3 W4 := by rw [hW4]; exact (Below.refl _ w3).alloc (Nat.le_refl _) _
   clear hW4
   have HQ4 := Lib.hid x4
   have HB4 := Lib.hid (HB3.out.trans (hb4.mono HB3.out.size))
   have HP4 := Lib.hid (HPK.out _ _ _ _ _ _ HP3.out hb4)
   clear x4 hb4 HB3 HP3
   obtain ⟨d0, d1, d2, d3, d4, d5, d6, d7, d8, d9, d10⟩ := bxc11 HQ4.out
   have dl := HQ4.out.lt
   go_wp2_with fail
   refine (HWR.out HG.out _ _ _ _ _ _ _ _ HP4.out).mono ?_
   rintro e w5 ⟨ko, kd, rfl, hn5, hb5⟩
   have HQ5 := Lib.hid (HQ4.out.below hb5 HQ4.out.lt)
   have HB5 := Lib.hid (HB4.out.trans (hb5.mono HB4.out.size))
   have HP5 := Lib.hid (HPK.out _ _ _ _ _ _ HP4.out hb5)
   have HN5 := Lib.hid hn5
   clear hn5 hb5 HQ4 HB4 HP4 HWR d0 d1 d2 d3 d4 d5 d6 d7 d8 d9 d10 dl
   go_wp2_with fail
   refine (HRD.out HG.out _ _ _ HN5.out).mono ?_
   rintro e w6 ⟨u1, u4, u2, u5, u3, u6, rfl, hp6, hb6⟩
   have HQ6 := Lib.hid (HQ5.out.below hb6 HQ5.out.lt)
   have HB6 := Lib.hid (HB5.out.trans (hb6.mono HB5.out.size))
   have HP6 := Lib.hid (HPK.out _ _ _ _ _ _ HP5.out hb6)
   have HU6 := Lib.hid hp6
   clear hp6 hb6 HQ5 HB5 HP5 HN5 HRD
   go_upto_region 7 with fail
   refine wp_world ?_
   intro W7 hW7
   have x7 : Box W7 w6.heap.size [.bool dh, .string dx, .string dy, .string dz, .string dg, .string da, .string dv, .string dk, .slice u1 lp u4, .slice u2 lm u5, .slice u3 ld u6] := by rw [hW7]; exact Box.new w6 [.bool dh, .string dx, .string dy, .string dz, .string dg, .string da, .string dv, .string dk, .slice u1 lp u4, .slice u2 lm u5, .slice u3 ld u6] _ _ rfl
   have hb7 : Below w6.heap.size w6 W7 := by rw [hW7]; exact (Below.refl _ w6).alloc (Nat.le_refl _) _
   clear hW7
   have HV7 := Lib.hid x7
   have HQ7 := Lib.hid (HQ6.out.below hb7 HQ6.out.lt)
   have HB7 := Lib.hid (HB6.out.trans (hb7.mono HB6.out.size))
   have HP7 := Lib.hid (HPK.out _ _ _ _ _ _ HP6.out hb7)
   have HU7 := Lib.hid (HPK.out _ _ _ _ _ _ HU6.out hb7)
   clear x7 hb7 HQ6 HB6 HP6 HU6
   obtain ⟨d0, d1, d2, d3, d4, d5, d6, d7, d8, d9, d10⟩ := bxc11 HQ7.out
   have dl := HQ7.out.lt
   go_wp2_with fail
   refine (HM2.out HG.out _ _ _ _ _ _ _ _ HP7.out).mono ?_
   rintro e w9 ⟨rfl, hb9⟩
   have HV9 := Lib.hid (HV7.out.below hb9 HV7.out.lt)
   have HQ9 := Lib.hid (HQ7.out.below hb9 HQ7.out.lt)
   have HB9 := Lib.hid (HB7.out.trans (hb9.mono HB7.out.size))
   have HP9 := Lib.hid (HPK.out _ _ _ _ _ _ HP7.out hb9)
   have HU9 := Lib.hid (HPK.out _ _ _ _ _ _ HU7.out hb9)
   clear hb9 HV7 HQ7 HB7 HP7 HU7 HM2 d0 d1 d2 d3 d4 d5 d6 d7 d8 d9 d10 dl
   obtain ⟨d0, d1, d2, d3, d4, d5, d6, d7, d8, d9, d10⟩ := bxc11 HQ9.out
   have dl := HQ9.out.lt
   go_wp2_with fail
   refine (HM1.out HG.out _ _ _ _ _ _ _ _ HP9.out).mono ?_
   rintro e w10 ⟨rfl, hb10⟩
   have HV10 := Lib.hid (HV9.out.below hb10 HV9.out.lt)
   have HQ10 := Lib.hid (HQ9.out.below hb10 HQ9.out.lt)
   have HB10 := Lib.hid (HB9.out.trans (hb10.mono HB9.out.size))
   have HP10 := Lib.hid (HPK.out _ _ _ _ _ _ HP9.out hb10)
   have HU10 := Lib.hid (HPK.out _ _ _ _ _ _ HU9.out hb10)
   clear hb10 HV9 HQ9 HB9 HP9 HU9 HM1 d0 d1 d2 d3 d4 d5 d6 d7 d8 d9 d10 dl
   obtain ⟨d0, d1, d2, d3, d4, d5, d6, d7, d8, d9, d10⟩ := bxc11 HQ10.out
   have dl := HQ10.out.lt
   obtain ⟨f0, f1, f2, f3, f4, f5, f6, f7, f8, f9, f10⟩ := bxc11 HV10.out
   have fl := HV10.out.lt
   go_wp2_with fail
   refine (HSM.out HG.out _ _ _ _ _ _ _ _ _ _ _ _ _ _ _ HP10.out HU10.out).mono ?_
   rintro e w11 ⟨rfl, hb11⟩
   have HB11 := Lib.hid (HB10.out.trans (hb11.mono HB10.out.size))
   clear hb11 HV10 HQ10 HB10 HP10 HU10 HSM d0 d1 d2 d3 d4 d5 d6 d7 d8 d9 d10 dl f0 f1 f2 f3 f4 f5 f6 f7 f8 f9 f10 fl
   go_wp2_with fail
   refine (HLV.out _ HB11.out).mono ?_
   rintro e w8 ⟨rfl, hb8⟩
   have HB8 := Lib.hid (HB11.out.trans (hb8.mono HB11.out.size))
   clear hb8 HLV
   go_wp2
   go_ret
   exact ⟨rfl, HB8.out⟩

end Go.Proofs.YtbbbfjcikhpmbaaGreat

/- From the readings of the arguments to what the walks ask: a project that can be read is one in memory. -/
namespace Go.Proofs.YtbbbfjcikhpmbaaGreat
open Go Go.RowKit

variable {H : Type} {enc : TypeId × Value → H} {W : World} {sp : Nat → Bool} {held : Bool}
/-- Whatever reads as type t are the cells of some a that is all right. -/
def Opens {α : Type} (enc : TypeId × Value → H) (W : World) (sp : Nat → Bool) (held : Bool) (t : TypeId) (C : α → List Value) (Ok : α → Prop) : Prop :=
 ∀ fuel cs x, DataW.trod enc Tryz.prog W 0 sp held fuel t cs = some x → ∃ a, cs = C a ∧ Ok a
theorem opens_string : Opens enc W sp held 9 strC (fun s => s.size ≤ maxLen) := fun _ _ _ h => by
 obtain ⟨s, h1, -, h2⟩ := DataW.trod_string Tryz.underlying9 h
 exact ⟨s, h1, h2⟩
theorem cells_of {w : World} {a : Addr} {n : Nat} {cs : List Value} (h : w.cells? 0 a n = some cs) (hn : 0 < n) : cs.length = n ∧ a.spot = none ∧ a.block < w.heap.size ∧ ∀ j u, cs[j]? = some u → w.cell? ⟨a.block, a.off + j, none⟩ = some u := by
 unfold World.cells? at h
 rw [if_pos (Nat.zero_le _)] at h
 have hl : cs.length = n := by simpa using mapM_some_length h
 have hg : ∀ j, j < n → w.cell? (a.add j) = cs[j]? := fun j hj => mapM_some_get h j j (by simp [hj])
 have h00 : w.cell? a = some cs[0] := by
  have := hg 0 hn
  rw [show a.add 0 = a from rfl] at this
  rw [this]; simp
 have hsp : a.spot = none := by
  cases hs : a.spot with
  | none => rfl
  | some x =>
   exfalso
   simp only [World.cell?, hs, Option.isSome_some, if_true] at h00
   split at h00 <;> cases h00
 obtain ⟨b, o, s⟩ := a
 cases hsp
 refine ⟨hl, rfl, World.block_lt_of_cell? w _ h00, fun j u hu => ?_⟩
 have hj : j < n := by rw [← hl]; exact (List.getElem?_eq_some_iff.1 hu).1
 have := hg j hj
 rw [Addr.add_lit, hu] at this
 exact this
theorem list_snoc {α : Type} {l : List α} {y : α} {i : Nat} {z : α} (h : (l ++ [y])[i]? = some z) : (i < l.length ∧ l[i]? = some z) ∨ (i = l.length ∧ z = y) := by
 by_cases hi : i < l.length
 · left; rw [List.getElem?_append_left hi] at h; exact ⟨hi, h⟩
 · right
   rw [List.getElem?_append_right (by omega)] at h
   by_cases h1 : i - l.length = 0
   · rw [h1] at h; simp at h; exact ⟨by omega, h.symm⟩
   · rw [List.getElem?_eq_none (by simp; omega)] at h; cases h
theorem list_of {α : Type} {len : Nat} {P : Nat → α → Prop} (h : ∀ i, i < len → ∃ y, P i y) : ∃ l : List α, l.length = len ∧ ∀ i y, l[i]? = some y → P i y := by
 induction len with
 | zero => exact ⟨[], rfl, fun i y h => by simp at h⟩
 | succ len ih =>
  obtain ⟨l, hl, hP⟩ := ih (fun i hi => h i (by omega))
  obtain ⟨y, hy⟩ := h len (by omega)
  refine ⟨l ++ [y], by simp [hl], fun i z hz => ?_⟩
  rcases list_snoc hz with ⟨-, h1⟩ | ⟨rfl, rfl⟩
  · exact hP i z h1
  · rw [hl]; exact hy
theorem opens_slice {α : Type} {t e n : Nat} {C : α → List Value} {Ok : α → Prop} (ht : Tryz.prog.underlying t = some (.slice e)) (hn : Tryz.prog.cellsOf e = n) (h0 : 0 < n) (he : Opens enc W sp held e C Ok) :
    Opens enc W sp held t (fun v : Value => [v]) (fun v => ∃ l, SliceOf n C W v l ∧ ∀ a ∈ l, Ok a) := fun fuel cs x h => by
 rcases Deep.open_slice ht h with ⟨rfl, -⟩ | ⟨a, len, cap, m, n', D, Pl, rfl, -, hlc, hcm, hm, -, hel⟩
 · exact ⟨_, rfl, [], SliceOf.nil, by simp⟩
 · rw [hn] at hel
   have hlm : len ≤ m := by rw [hm]; split <;> omega
   obtain ⟨l, hl, hP⟩ := list_of (len := len) (P := fun i y => W.cells? 0 (a.add (i * n)) n = some (C y) ∧ Ok y) (fun i hi => by
    obtain ⟨cs', h1, h2⟩ := hel i (by omega)
    obtain ⟨y, rfl, hy⟩ := he _ _ _ h2
    exact ⟨y, h1, hy⟩)
   refine ⟨_, rfl, l, ⟨some a, cap, by rw [hl], by omega, hcm, by simp, fun i y hy => ?_⟩, fun y hy => ?_⟩
   · have hil : i < len := by rw [← hl]; exact (List.getElem?_eq_some_iff.1 hy).1
     obtain ⟨y0, hy0⟩ : ∃ y0, l[0]? = some y0 := ⟨l[0]'(by omega), by simp⟩
     obtain ⟨-, hs, hb, -⟩ := cells_of (hP 0 y0 hy0).1 h0
     rw [Nat.zero_mul, show a.add 0 = a from rfl] at hs hb
     obtain ⟨b, o, s⟩ := a
     cases hs
     obtain ⟨-, -, -, hc⟩ := cells_of (hP i y hy).1 h0
     rw [Addr.add_lit] at hc
     exact ⟨b, o, rfl, hb, hc⟩
   · obtain ⟨i, hi, rfl⟩ := List.mem_iff_getElem.1 hy
     exact (hP i _ (by simp [hi])).2
theorem cellsOf_str : Tryz.prog.cellsOf 9 = 1 := by kernel_rfl
theorem len2 {l : List Value} (h : l.length = 2) : ∃ c0 c1, l = [c0, c1] := by
 match l, h with
 | [c0, c1], _ => exact ⟨c0, c1, rfl⟩

end Go.Proofs.YtbbbfjcikhpmbaaGreat

/- From the readings of the arguments to what the walks ask: attributes and tokens that can be read are some in memory. -/
namespace Go.Proofs.YtbbbfjcikhpmbaaGreat
open Go Go.RowKit

variable {H : Type} {enc : TypeId × Value → H} {W : World} {sp : Nat → Bool} {held : Bool}
theorem cellsOf_attr : Tryz.prog.cellsOf 100 = 2 := by kernel_rfl
theorem cellsOf_attrs : Tryz.prog.cellsOf 22 = 1 := by kernel_rfl
/-- Sizes that any memory has. -/
def AtOk (a : At2) : Prop := a.1.length ≤ maxLen ∧ a.2.length ≤ maxLen
theorem opens_attr : Opens enc W sp held 100 atC AtOk := fun fuel cs x h => by
 obtain ⟨xs, n, -, -, hl, hxs, hf⟩ := DataW.trod_struct Tryz.underlying100 h
 rw [cellsOf_attr] at hl
 obtain ⟨c0, c1, rfl⟩ := len2 hl
 have f0 : DataW.trod enc Tryz.prog W 0 sp held n 9 (([c0, c1].drop 0).take (Tryz.prog.cellsOf 9)) = xs[0]? := hf 0 _ rfl
 rw [cellsOf_str, List.getElem?_eq_getElem (by rw [hxs]; decide)] at f0
 have f1 : DataW.trod enc Tryz.prog W 0 sp held n 9 (([c0, c1].drop 1).take (Tryz.prog.cellsOf 9)) = xs[1]? := hf 1 _ rfl
 rw [cellsOf_str, List.getElem?_eq_getElem (by rw [hxs]; decide)] at f1
 obtain ⟨a0, h0, k0⟩ := opens_string _ _ _ f0
 obtain ⟨a1, h1, k1⟩ := opens_string _ _ _ f1
 clear hf f0 f1
 cases h0
 cases h1
 refine ⟨(a0.data.toList, a1.data.toList), ?_, by rw [size_data]; exact k0, by rw [size_data]; exact k1⟩
 show _ = [Value.string (bs a0.data.toList), Value.string (bs a1.data.toList)]
 rw [data_bs, data_bs]
theorem opens_attrs : Opens enc W sp held 22 (fun v : Value => [v]) (fun v => ∃ l, SliceOf 2 atC W v l ∧ ∀ a ∈ l, AtOk a) :=
 opens_slice Tryz.underlying22 cellsOf_attr (by decide) opens_attr

end Go.Proofs.YtbbbfjcikhpmbaaGreat

/- From the reading of an argument to what the walks ask: a tree that can be read is one in memory. -/

namespace Go.Proofs.YtbbbfjcikhpmbaaGreat
open Go Go.RowKit

variable {H : Type} {enc : TypeId × Value → H} {W : World} {sp : Nat → Bool} {held : Bool}
/-- Sizes that any memory has. -/
inductive TrOk : Tr → Prop where
 | mk {n : Bs} {ats : List At2} {ks : List Tr} {x : Bs} (hn : n.length ≤ maxLen) (hx : x.length ≤ maxLen) (ha : ∀ a ∈ ats, AtOk a) (hk : ∀ k ∈ ks, TrOk k) : TrOk (.mk n ats ks x)
theorem cellsOf_node : Tryz.prog.cellsOf 25 = 4 := by kernel_rfl
theorem cellsOf_nodes : Tryz.prog.cellsOf 23 = 1 := by kernel_rfl
theorem len4 {l : List Value} (h : l.length = 4) : ∃ c0 c1 c2 c3, l = [c0, c1, c2, c3] := by
 match l, h with
 | [c0, c1, c2, c3], _ => exact ⟨c0, c1, c2, c3, rfl⟩
/-- opens_slice at one fuel. -/
theorem opens_slice_at {α : Type} {t e n fuel : Nat} {C : α → List Value} {Ok : α → Prop} (ht : Tryz.prog.underlying t = some (.slice e)) (hn : Tryz.prog.cellsOf e = n) (h0 : 0 < n) (he : ∀ fu, fu < fuel → ∀ cs x, DataW.trod enc Tryz.prog W 0 sp held fu e cs = some x → ∃ a, cs = C a ∧ Ok a) {cs : List Value} {x : DataW H × List MemPlace} (h : DataW.trod enc Tryz.prog W 0 sp held fuel t cs = some x) :
    ∃ v, cs = [v] ∧ ∃ l, SliceOf n C W v l ∧ ∀ a ∈ l, Ok a := by
 rcases DataW.trod_slice ht h with ⟨rfl, -⟩ | ⟨a, len, cap, elems, rest, n', hfu, rfl, -, -, hlc, hcm, hel, hget, -, -⟩
 · exact ⟨_, rfl, [], SliceOf.nil, by simp⟩
 · rw [hn] at hget
   obtain ⟨l, hl, hP⟩ := list_of (len := len) (P := fun i y => W.cells? 0 (a.add (i * n)) n = some (C y) ∧ Ok y) (fun i hi => by
    have h1 := hget i hi
    rw [List.getElem?_eq_getElem (by omega)] at h1
    simp only [Option.bind_eq_some_iff] at h1
    obtain ⟨cs', h2, h3⟩ := h1
    obtain ⟨y, rfl, hy⟩ := he n' (by omega) _ _ h3
    exact ⟨y, h2, hy⟩)
   refine ⟨_, rfl, l, ⟨some a, cap, by rw [hl], by omega, hcm, by simp, fun i y hy => ?_⟩, fun y hy => ?_⟩
   · have hil : i < len := by rw [← hl]; exact (List.getElem?_eq_some_iff.1 hy).1
     obtain ⟨y0, hy0⟩ : ∃ y0, l[0]? = some y0 := ⟨l[0]'(by omega), by simp⟩
     obtain ⟨-, hs, hb, -⟩ := cells_of (hP 0 y0 hy0).1 h0
     rw [Nat.zero_mul, show a.add 0 = a from rfl] at hs hb
     obtain ⟨b, o, s⟩ := a
     cases hs
     obtain ⟨-, -, -, hc⟩ := cells_of (hP i y hy).1 h0
     rw [Addr.add_lit] at hc
     exact ⟨b, o, rfl, hb, hc⟩
   · obtain ⟨i, hi, rfl⟩ := List.mem_iff_getElem.1 hy
     exact (hP i _ (by simp [hi])).2
theorem opens_node_at : ∀ (fuel : Nat) (cs : List Value) (x : DataW H × List MemPlace), DataW.trod enc Tryz.prog W 0 sp held fuel 25 cs = some x → ∃ y : TrV, cs = trC y ∧ NodeOf W y.1 y.2.1 y.2.2 ∧ TrOk y.1 := by
 intro fuel
 induction fuel using Nat.strongRecOn with
 | _ fuel ih =>
 intro cs x h
 obtain ⟨xs, n, hfu, -, hl, hxs, hf⟩ := DataW.trod_struct Tryz.underlying25 h
 rw [cellsOf_node] at hl
 obtain ⟨c0, c1, c2, c3, rfl⟩ := len4 hl
 have f0 : DataW.trod enc Tryz.prog W 0 sp held n 9 (([c0, c1, c2, c3].drop 0).take (Tryz.prog.cellsOf 9)) = xs[0]? := hf 0 _ rfl
 rw [cellsOf_str, List.getElem?_eq_getElem (by rw [hxs]; decide)] at f0
 have f1 : DataW.trod enc Tryz.prog W 0 sp held n 22 (([c0, c1, c2, c3].drop 1).take (Tryz.prog.cellsOf 22)) = xs[1]? := hf 1 _ rfl
 rw [cellsOf_attrs, List.getElem?_eq_getElem (by rw [hxs]; decide)] at f1
 have f2 : DataW.trod enc Tryz.prog W 0 sp held n 23 (([c0, c1, c2, c3].drop 2).take (Tryz.prog.cellsOf 23)) = xs[2]? := hf 2 _ rfl
 rw [cellsOf_nodes, List.getElem?_eq_getElem (by rw [hxs]; decide)] at f2
 have f3 : DataW.trod enc Tryz.prog W 0 sp held n 9 (([c0, c1, c2, c3].drop 3).take (Tryz.prog.cellsOf 9)) = xs[3]? := hf 3 _ rfl
 rw [cellsOf_str, List.getElem?_eq_getElem (by rw [hxs]; decide)] at f3
 obtain ⟨a0, h0, k0⟩ := opens_string _ _ _ f0
 obtain ⟨a1, h1, l1, hl1, hok1⟩ := opens_attrs _ _ _ f1
 obtain ⟨a2, h2, L, hL, hokL⟩ := opens_slice_at (C := trC) (Ok := fun y : TrV => NodeOf W y.1 y.2.1 y.2.2 ∧ TrOk y.1) Tryz.underlying23 cellsOf_node (by decide) (fun fu hlt cs x hx => ih fu (by omega) cs x hx) f2
 obtain ⟨a3, h3, k3⟩ := opens_string _ _ _ f3
 clear hf f0 f1 f2 f3
 cases h0
 cases h1
 cases h2
 cases h3
 refine ⟨(.mk a0.data.toList l1 (L.map (·.1)) a3.data.toList, c1, c2), ?_, .mk L hl1.toX rfl hL.toX (fun y hy => (hokL y hy).1), .mk (by rw [size_data]; exact k0) (by rw [size_data]; exact k3) hok1 (fun k hk => ?_)⟩
 · show _ = [Value.string (bs a0.data.toList), c1, c2, Value.string (bs a3.data.toList)]
   rw [data_bs, data_bs]
 · obtain ⟨y, hy, rfl⟩ := List.mem_map.1 hk
   exact (hokL y hy).2
theorem opens_node : Opens enc W sp held 25 trC (fun y : TrV => NodeOf W y.1 y.2.1 y.2.2 ∧ TrOk y.1) := opens_node_at

end Go.Proofs.YtbbbfjcikhpmbaaGreat

/- From a walk to a row: a law that returns true and turns nothing that was there. -/
namespace Go.Proofs.YtbbbfjcikhpmbaaGreat
open Go Go.ChangeShapes Go.WideShapes Go.ChangeAt Go.RowKit

theorem own : ownKnob Tryz.prog.godebug = none := by kernel_rfl
theorem laidOut : laidOutB Tryz.prog = true := by kernel_rfl
theorem trodAll_below {H : Type} {enc : TypeId × Value → H} {W W' : World} (hb : Below W.heap.size W W') : ∀ {ts : List TypeId} {vs : List Value} {ds : List (DataW H)} {ps : List MemPlace},
    (∀ t ∈ ts, Tryz.prog.readableRec t = true ∧ t < Tryz.prog.types.size) → DataW.TrodAll enc Tryz.prog W 0 (fun _ => true) true ts vs ds ps → (∀ x ∈ ps, x.block < W.heap.size) →
    DataW.TrodAll enc Tryz.prog W' 0 (fun b => decide (b < W.heap.size)) true ts vs ds ps
 | [], [], [], _, _, h, _ => h
 | t :: ts, v :: vs, d :: ds, ps, hr, h, hlt => by
  obtain ⟨p, q, h1, h2, rfl⟩ := h
  exact ⟨p, q, Below.trod laidOut (hr t (by simp)).1 (hr t (by simp)).2 h1 hb (fun x hx => hlt x (by simp [hx])),
   trodAll_below hb (fun u hu => hr u (by simp [hu])) h2 (fun x hx => hlt x (by simp [hx])), rfl⟩
 | [], [], _ :: _, _, _, h, _ => h.elim
 | [], _ :: _, _, _, _, h, _ => h.elim
 | _ :: _, [], _, _, _, h, _ => h.elim
 | _ :: _, _ :: _, [], _, _, h, _ => h.elim

end Go.Proofs.YtbbbfjcikhpmbaaGreat

/- Whatever the input, the law PomStays returns true, and its arguments read behind the call as before; no conditions. -/
namespace Go.Proofs.YtbbbfjcikhpmbaaGreat
open Go Go.ChangeShapes Go.WideShapes Go.ChangeAt Go.RowKit Go.ChangeMaps

theorem rt_node : Tryz.prog.readableRec 25 = true := by kernel_rfl
theorem lt_node : 25 < Tryz.prog.types.size := of_decide_eq_true (by kernel_rfl)
set_option maxRecDepth 100000 in
theorem open_node {H : Type} {enc : TypeId × Value → H} {W : World} {base : Nat} {v : Value} {d : DataW H} {p : List MemPlace} (hval : Value.okWide Tryz.prog W .any base 25 v)
    (h : DataW.Trod enc Tryz.prog W 0 (fun _ => true) true 25 v d p) : ∃ t av kv, v = nodeV t av kv ∧ NodeOf W t av kv ∧ TrOk t := by
 obtain ⟨fuel, hf⟩ := h
 obtain ⟨⟨t, av, kv⟩, hcs, hok, ho2⟩ := opens_node _ _ _ hf
 refine ⟨t, av, kv, ?_, hok, ho2⟩
 simp only [Value.okWide, Tryz.underlying25] at hval
 obtain ⟨cs, rfl, -⟩ := hval
 simp only [Value.cells] at hcs
 show Value.agg cs = Value.agg (trC (t, av, kv)).toArray
 rw [← hcs]
set_option maxRecDepth 100000 in
theorem pomStays_lifted (os : Os) (started : os.Started) (H : Type) (enc : TypeId × Value → H) :
    ReturnsInHanded {} Tryz.checked os 8 .any (Rows.pomStaysSpec.pre6 enc Tryz.prog Tryz.f8 Rows.pomStaysRow.domain false) (Rows.pomStaysSpec.post enc Tryz.prog Tryz.f8 false true false false) := by
 refine returnsInHanded_of_change_shaped (C := Tryz.checked) own started (by kernel_rfl) Tryz.func8
  (ChangeSpec.witness6 (enc := enc) (C := Tryz.checked) false ⟨#[], #[.agg #[.string .empty, .slice none 0 0, .slice none 0 0, .string .empty]], []⟩ 8 (by kernel_rfl) (by kernel_rfl) (by kernel_rfl) (by kernel_rfl)) ?_
 intro W base args ds gs before hval0 hW hcnd _ hsh _
 have hval : ∀ (j : Nat) t v, Tryz.f8.params[j]? = some t → args[j]? = some v → Value.okWide Tryz.prog W .any base t v := hval0
 have hW' := hW
 obtain ⟨p, q, hA0, hV, rfl, hfz, hnd⟩ := hW
 have hA : DataW.TrodAll enc Tryz.prog W 0 (fun _ => true) true Tryz.f8.params.toList args.toList ds p := hA0
 have hA' := hA
 rw [Tryz.params8] at hA hval
 obtain ⟨v0, d0, rfl, rfl, h0⟩ := trodAll_one hA
 obtain ⟨rfl, rfl⟩ := trodVars_none hV
 obtain ⟨t0, av0, kv0, rfl, hn0, ho0⟩ := open_node (hval 0 25 v0 rfl rfl) h0
 clear hA0 hval0
 obtain ⟨m, hm⟩ : ∃ m, W.cell? ⟨0, 0, none⟩ = some (.int .i64 m) := Tryz.laysM219.s1_3 W hsh
 have hlt : ∀ x ∈ p, x.block < W.heap.size := fun x hx => by simpa using hW'.lt x (by simpa using hx)
 refine (pomStaysLaw_any t0 av0 kv0 m W hn0 hm).mono fun en W' ⟨he, hb⟩ => ?_
 subst he
 refine ⟨_, rfl, _, _, _, [], p, [], hW', trodAll_mk1 (shut_bool Tryz.underlying4 _), trodAll_below hb ?_ hA' hlt, rfl, hb.frame _, fun h => by cases h⟩
 rw [Tryz.params8]
 intro t ht
 simp at ht
 subst ht
 exact ⟨rt_node, lt_node⟩
theorem pomStays_holds : Rows.PomStaysSaid :=
 OpenClaim.holds_of_wide 8 Tryz.f8 rfl rfl rfl rfl rfl rfl rfl ⟨rfl, rfl, rfl, rfl, rfl⟩ rfl rfl rfl rfl rfl (by kernel_rfl) Tryz.func8 (by kernel_rfl)
  (of_decide_eq_true (by kernel_rfl)) (by unfold Func.isWrapper; rw [if_neg (of_decide_eq_false (by kernel_rfl))]; exact ⟨rfl, rfl⟩)
  (fun os started H enc _ => pomStays_lifted os started H enc)

#print axioms pomStays_holds

end Go.Proofs.YtbbbfjcikhpmbaaGreat
