/- The walk of the law PomReads; the conditions stand in the theorem. -/
import Derived.Test.YtbbbfjcikhpmbaaGreatJA19
import Derived.Test.YtbbbfjcikhpmbaaGreatJA23
import Derived.Test.YtbbbfjcikhpmbaaGreatJA18
import Derived.ProofKit
import Derived.Deep.Slices
import Derived.Test.YtbbbfjcikhpmbaaGreatJA06
import Derived.Test.YtbbbfjcikhpmbaaGreatJA04
import Derived.Test.YtbbbfjcikhpmbaaGreatRows
import Derived.Test.YtbbbfjcikhpmbaaGreatJA02
import Derived.Test.YtbbbfjcikhpmbaaGreatShelf
import Derived.WalkKit
import Derived.OpenShut
import Derived.HandedShaped

namespace Go.Proofs.YtbbbfjcikhpmbaaGreat
open Go Go.RowKit

theorem excl_mild {t : Tr} (h : MildW t) : (exclsV t).length ≤ 100000 := by
 unfold exclsV
 cases hO : oneV t bExclusions with
 | none => simp
 | some f =>
  show ((kidsF bExclusion f.kids).map exclV).length ≤ _
  rw [List.length_map]
  exact Nat.le_trans (List.length_filter_le _ _) (h.one hO).kl
theorem deps_mild {t : Tr} (h : MildW t) : ∀ d ∈ depsV t, d.excl.length ≤ 140737488355328 := by
 unfold depsV
 cases hO : oneV t bDependencies with
 | none => intro d hd; cases hd
 | some f =>
  intro d hd
  obtain ⟨k, hk, rfl⟩ := List.mem_map.1 hd
  exact Nat.le_trans (excl_mild ((h.one hO).kids k (kidsF_sub hk))) (by decide)
theorem managed_mild {t : Tr} (h : MildW t) : ∀ d ∈ managedV t, d.excl.length ≤ 140737488355328 := by
 unfold managedV
 cases hO : oneV t bManagement with
 | none => intro d hd; cases hd
 | some f => exact deps_mild (h.one hO)
theorem pom0_own (b : Nat) (w : World) : PomOwn b w pom0 (.slice none 0 0) (.slice none 0 0) (.slice none 0 0) := ⟨Owns.nil, ⟨[], DepsOwn.nil _ _⟩, ⟨[], DepsOwn.nil _ _⟩⟩
/-- What either Read gives back, whichever way it goes. -/
def ReadH (p : Pom) (k : Int) (s : S) (w : World) (e : Ending) (w' : World) : Prop := ∃ (a1 : Option Addr) (a4 : Nat) (a2 : Option Addr) (a5 : Nat) (a3 : Option Addr) (a6 : Nat), e = .returned (.tuple #[.agg #[.bool p.hasParent, .string p.parent.group, .string p.parent.artifact, .string p.parent.version, .string p.group, .string p.artifact, .string p.version, .string p.packaging, .slice a1 p.props.length a4, .slice a2 p.managed.length a5, .slice a3 p.deps.length a6], .int .i64 k, .string s]) ∧ PomOwn w.heap.size w' p (.slice a1 p.props.length a4) (.slice a2 p.managed.length a5) (.slice a3 p.deps.length a6) ∧ Below w.heap.size w w'
theorem ReadOut.gen (t : Tr) (h : MildW t) : ∃ (p : Pom) (k : Int) (s : S), (∀ d ∈ p.managed, d.excl.length ≤ 140737488355328) ∧ (∀ d ∈ p.deps, d.excl.length ≤ 140737488355328) ∧ ∀ w e w', ReadOut t w e w' → ReadH p k s w e w' := by
 cases hE : readE t with
 | none =>
  refine ⟨readV t, 0, ⟨#[]⟩, managed_mild h, deps_mild h, fun w e w' hO => ?_⟩
  obtain ⟨a1, c1, a2, c2, a3, c3, h1, h2, h3⟩ := hO.good rfl hE
  exact ⟨a1, c1, a2, c2, a3, c3, h1, h2, h3⟩
 | some x =>
  refine ⟨pom0, x.1, bs x.2, (fun _ h => by cases h), (fun _ h => by cases h), fun w e w' hO => ?_⟩
  exact ⟨none, 0, none, 0, none, 0, hO.2.1 x hE, pom0_own _ _, hO.1⟩
set_option maxRecDepth 100000 in
set_option maxHeartbeats 16000000 in
theorem pomReadsLaw_any (t : Tr) (av kv : Value) (mx : Int) (w : World) (hn : NodeOf w t av kv) (hm : w.cell? ⟨0, 0, none⟩ = some (.int .i64 mx)) :
    Calls Tryz.prog 3 #[nodeV t av kv] w fun e w' => e = .returned (.bool true) ∧ Below w.heap.size w w' := by
 have hw0 : 0 < w.heap.size := World.block_lt_of_cell? w _ hm
 obtain ⟨ao, ac, kb, kc, rfl, rfl, -, -⟩ := hn.shape
 unfold nodeV
 obtain ⟨N, hN⟩ : ∃ N, N = bs t.name := ⟨_, rfl⟩
 obtain ⟨X, hX⟩ : ∃ X, X = bs t.text := ⟨_, rfl⟩
 have HLV : Hid (∀ W, Below w.heap.size w W → Calls Tryz.prog 12 #[] W fun e w' => e = .returned (.bool true) ∧ Below W.heap.size W w') := fun W h => pomLives_any mx W ((h.cell (by exact hw0)).trans hm)
 have HL1 : Hid (∀ W, Below w.heap.size w W → Calls Tryz.prog 11 #[.agg #[.string N, .slice ao t.attrs.length ac, .slice kb t.kids.length kc, .string X]] W fun e w' => Below W.heap.size W w' ∧ ∃ b : Bool, e = .returned (.bool b) ∧ (b = true → LightT t ∧ t.cnt ≤ 300)) := fun W h => by
  rw [hN, hX]; exact lightTop_any t W _ _ (hn.later h)
 have HGN : Hid (LightT t → ∃ (p : Pom) (k : Int) (s : S), (∀ W, Below w.heap.size w W → Calls Tryz.prog 13 #[.agg #[.string N, .slice ao t.attrs.length ac, .slice kb t.kids.length kc, .string X]] W (ReadH p k s W)) ∧ (∀ W, Below w.heap.size w W → Calls Tryz.prog 14 #[.agg #[.string N, .slice ao t.attrs.length ac, .slice kb t.kids.length kc, .string X]] W (ReadH p k s W)) ∧
     ∀ base base2 W a1 a4 a2 a5 a3 a6 b1 b4 b2 b5 b3 b6, PomOwn base W p (.slice a1 p.props.length a4) (.slice a2 p.managed.length a5) (.slice a3 p.deps.length a6) → PomOwn base2 W p (.slice b1 p.props.length b4) (.slice b2 p.managed.length b5) (.slice b3 p.deps.length b6) → Calls Tryz.prog 15 #[.agg #[.bool p.hasParent, .string p.parent.group, .string p.parent.artifact, .string p.parent.version, .string p.group, .string p.artifact, .string p.version, .string p.packaging, .slice a1 p.props.length a4, .slice a2 p.managed.length a5, .slice a3 p.deps.length a6], .agg #[.bool p.hasParent, .string p.parent.group, .string p.parent.artifact, .string p.parent.version, .string p.group, .string p.artifact, .string p.version, .string p.packaging, .slice b1 p.props.length b4, .slice b2 p.managed.length b5, .slice b3 p.deps.length b6]] W fun e w' => e = .returned (.bool true) ∧ Below W.heap.size W w') := fun hL => by
  obtain ⟨p, k, s, x1, x2, hg⟩ := ReadOut.gen t hL.mild.weak
  refine ⟨p, k, s, fun W h => ?_, fun W h => ?_, fun base base2 W a1 a4 a2 a5 a3 a6 b1 b4 b2 b5 b3 b6 ho ho2 => ?_⟩
  · rw [hN, hX]; exact (readW_any t W _ _ (hn.later h) hL.mild.weak).mono fun e w' hO => hg _ _ _ hO
  · rw [hN, hX]; exact (readR_any t W _ _ (hn.later h) hL.mild.weak).mono fun e w' hO => hg _ _ _ hO
  · have h1 := sameX_any p p _ _ _ _ _ _ W ho.of ho2.of x1 x2 x1 x2
    rwa [decide_eq_true rfl] at h1
 rw [← hN, ← hX]
 clear hm hw0 hn hN hX
 obtain ⟨LT, hLT⟩ : ∃ Y : Prop, Y = LightT t := ⟨_, rfl⟩
 have HLT : Hid (LightT t → LT) := fun h => by rw [hLT]; exact h
 rw [← hLT] at HGN
 clear hLT
 replace HL1 : Hid (∀ W, Below w.heap.size w W → Calls Tryz.prog 11 #[.agg #[.string N, .slice ao t.attrs.length ac, .slice kb t.kids.length kc, .string X]] W fun e w' => Below W.heap.size W w' ∧ ∃ b : Bool, e = .returned (.bool b) ∧ (b = true → LT)) := fun W h => (HL1.out W h).mono fun _ _ ⟨h1, b, h2, h3⟩ => ⟨h1, b, h2, fun e => HLT.out (h3 e).1⟩
 clear HLT
 generalize t.attrs.length = an at *
 generalize t.kids.length = kn at *
 clear t
 go_enter Tryz.func3, Tryz.ntmps3
 go_upto_region 1 with fail
 refine wp_world ?_
 intro W hW
 have x1 : Box W w.heap.size [.string N, .slice ao an ac, .slice kb kn kc, .string X] := by rw [hW]; exact Box.new w [.string N, .slice ao an ac, .slice kb kn kc, .string X] _ _ rfl
 have hb : Below w.heap.size w W := by rw [hW]; exact (Below.refl _ w).alloc (Nat.le_refl _) _
 clear hW
 have HA := Lib.hid x1
 have HB := Lib.hid hb
 clear x1 hb
 obtain ⟨c0, c1, c2, c3⟩ := bxc4 HA.out
 have cl := HA.out.lt
 go_wp2_with fail
 refine (HL1.out _ HB.out).mono ?_
 rintro e w1 ⟨hb1, b, rfl, hbt⟩
 have HBT := Lib.hid hbt
 have HA1 := Lib.hid (HA.out.below hb1 HA.out.lt)
 have HB1 := Lib.hid (HB.out.trans (hb1.mono HB.out.size))
 clear hbt hb1 HA HB HL1 c0 c1 c2 c3 cl
 cases b with
 | false =>
  go_wp2_with fail
  refine (HLV.out _ HB1.out).mono ?_
  rintro e w8 ⟨rfl, hb8⟩
  have HB8 := Lib.hid (HB1.out.trans (hb8.mono HB1.out.size))
  clear hb8 HLV
  go_wp2
  go_ret
  exact ⟨rfl, HB8.out⟩
 | true =>
  obtain ⟨p, k, s, hr1, hr2, hsm⟩ := HGN.out (HBT.out rfl)
  clear HBT HGN
  obtain ⟨PO, hPO⟩ : ∃ Y : Nat → World → Value → Value → Value → Prop, Y = fun b W => PomOwn b W p := ⟨_, rfl⟩
  have HPK : Hid (∀ b W W' x y z, PO b W x y z → Below W.heap.size W W' → PO b W' x y z) := fun b W W' x y z h hb => by subst hPO; exact h.below hb
  have HR1 : Hid (∀ W, Below w.heap.size w W → Calls Tryz.prog 13 #[.agg #[.string N, .slice ao an ac, .slice kb kn kc, .string X]] W fun e w' => ∃ (a1 : Option Addr) (a4 : Nat) (a2 : Option Addr) (a5 : Nat) (a3 : Option Addr) (a6 : Nat), e = .returned (.tuple #[.agg #[.bool p.hasParent, .string p.parent.group, .string p.parent.artifact, .string p.parent.version, .string p.group, .string p.artifact, .string p.version, .string p.packaging, .slice a1 p.props.length a4, .slice a2 p.managed.length a5, .slice a3 p.deps.length a6], .int .i64 k, .string s]) ∧ PO W.heap.size w' (.slice a1 p.props.length a4) (.slice a2 p.managed.length a5) (.slice a3 p.deps.length a6) ∧ Below W.heap.size W w') := by subst hPO; exact hr1
  have HR2 : Hid (∀ W, Below w.heap.size w W → Calls Tryz.prog 14 #[.agg #[.string N, .slice ao an ac, .slice kb kn kc, .string X]] W fun e w' => ∃ (a1 : Option Addr) (a4 : Nat) (a2 : Option Addr) (a5 : Nat) (a3 : Option Addr) (a6 : Nat), e = .returned (.tuple #[.agg #[.bool p.hasParent, .string p.parent.group, .string p.parent.artifact, .string p.parent.version, .string p.group, .string p.artifact, .string p.version, .string p.packaging, .slice a1 p.props.length a4, .slice a2 p.managed.length a5, .slice a3 p.deps.length a6], .int .i64 k, .string s]) ∧ PO W.heap.size w' (.slice a1 p.props.length a4) (.slice a2 p.managed.length a5) (.slice a3 p.deps.length a6) ∧ Below W.heap.size W w') := by subst hPO; exact hr2
  have HSM : Hid (∀ base base2 W a1 a4 a2 a5 a3 a6 b1 b4 b2 b5 b3 b6, PO base W (.slice a1 p.props.length a4) (.slice a2 p.managed.length a5) (.slice a3 p.deps.length a6) → PO base2 W (.slice b1 p.props.length b4) (.slice b2 p.managed.length b5) (.slice b3 p.deps.length b6) → Calls Tryz.prog 15 #[.agg #[.bool p.hasParent, .string p.parent.group, .string p.parent.artifact, .string p.parent.version, .string p.group, .string p.artifact, .string p.version, .string p.packaging, .slice a1 p.props.length a4, .slice a2 p.managed.length a5, .slice a3 p.deps.length a6], .agg #[.bool p.hasParent, .string p.parent.group, .string p.parent.artifact, .string p.parent.version, .string p.group, .string p.artifact, .string p.version, .string p.packaging, .slice b1 p.props.length b4, .slice b2 p.managed.length b5, .slice b3 p.deps.length b6]] W fun e w' => e = .returned (.bool true) ∧ Below W.heap.size W w') := by subst hPO; exact hsm
  clear hr1 hr2 hsm hPO
  obtain ⟨dh, ⟨dx, dy, dz⟩, dg, da, dv, dk, dp, dm, dd⟩ := p
  simp only at HR1 HR2 HSM
  generalize dp.length = lp at *
  generalize dm.length = lm at *
  generalize dd.length = ld at *
  have hkk : (k == k) = true := by simp
  have hss : (s.toList == s.toList) = true := by simp
  obtain ⟨c0, c1, c2, c3⟩ := bxc4 HA1.out
  have cl := HA1.out.lt
  go_wp2_with fail
  refine (HR1.out _ HB1.out).mono ?_
  rintro e w2 ⟨t1, t4, t2, t5, t3, t6, rfl, hp2, hb2⟩
  have HA2 := Lib.hid (HA1.out.below hb2 HA1.out.lt)
  have HB2 := Lib.hid (HB1.out.trans (hb2.mono HB1.out.size))
  have HP2 := Lib.hid hp2
  clear hp2 hb2 HA1 HB1 HR1 c0 c1 c2 c3 cl
  go_upto_region 4 with fail
  refine wp_world ?_
  intro W3 hW3
  have x3 : Box W3 w2.heap.size [.bool dh, .string dx, .string dy, .string dz, .string dg, .string da, .string dv, .string dk, .slice t1 lp t4, .slice t2 lm t5, .slice t3 ld t6] := by rw [hW3]; exact Box.new w2 [.bool dh, .string dx, .string dy, .string dz, .string dg, .string da, .string dv, .string dk, .slice t1 lp t4, .slice t2 lm t5, .slice t3 ld t6] _ _ rfl
  have hb3 : Below w2.heap.size w2 W3 := by rw [hW3]; exact (Below.refl _ _).alloc (Nat.le_refl _) _
  clear hW3
  have HT3 := Lib.hid x3
  have HA3 := Lib.hid (HA2.out.below hb3 HA2.out.lt)
  have HB3 := Lib.hid (HB2.out.trans (hb3.mono HB2.out.size))
  have HP3 := Lib.hid (HPK.out _ _ _ _ _ _ HP2.out hb3)
  clear x3 hb3 HA2 HB2 HP2
  obtain ⟨c0, c1, c2, c3⟩ := bxc4 HA3.out
  have cl := HA3.out.lt
  go_wp2_with fail
  refine (HR2.out _ HB3.out).mono ?_
  rintro e w4 ⟨u1, u4, u2, u5, u3, u6, rfl, hp4, hb4⟩
  have HT4 := Lib.hid (HT3.out.below hb4 HT3.out.lt)
  have HB4 := Lib.hid (HB3.out.trans (hb4.mono HB3.out.size))
  have HP4 := Lib.hid (HPK.out _ _ _ _ _ _ HP3.out hb4)
  have HU4 := Lib.hid hp4
  clear hp4 hb4 HA3 HB3 HP3 HT3 HR2 c0 c1 c2 c3 cl
  go_upto_region 5 with fail
  refine wp_world ?_
  intro W5 hW5
  have x5 : Box W5 w4.heap.size [.bool dh, .string dx, .string dy, .string dz, .string dg, .string da, .string dv, .string dk, .slice u1 lp u4, .slice u2 lm u5, .slice u3 ld u6] := by rw [hW5]; exact Box.new w4 [.bool dh, .string dx, .string dy, .string dz, .string dg, .string da, .string dv, .string dk, .slice u1 lp u4, .slice u2 lm u5, .slice u3 ld u6] _ _ rfl
  have hb5 : Below w4.heap.size w4 W5 := by rw [hW5]; exact (Below.refl _ _).alloc (Nat.le_refl _) _
  clear hW5
  have HX5 := Lib.hid x5
  have HT5 := Lib.hid (HT4.out.below hb5 HT4.out.lt)
  have HB5 := Lib.hid (HB4.out.trans (hb5.mono HB4.out.size))
  have HP5 := Lib.hid (HPK.out _ _ _ _ _ _ HP4.out hb5)
  have HU5 := Lib.hid (HPK.out _ _ _ _ _ _ HU4.out hb5)
  clear x5 hb5 HT4 HB4 HP4 HU4
  obtain ⟨c0, c1, c2, c3, c4, c5, c6, c7, c8, c9, c10⟩ := bxc11 HT5.out
  have cl := HT5.out.lt
  obtain ⟨d0, d1, d2, d3, d4, d5, d6, d7, d8, d9, d10⟩ := bxc11 HX5.out
  have dl := HX5.out.lt
  go_wp2_with fail
  refine (HSM.out _ _ _ _ _ _ _ _ _ _ _ _ _ _ _ HP5.out HU5.out).mono ?_
  rintro e w7 ⟨rfl, hb7⟩
  have HB7 := Lib.hid (HB5.out.trans (hb7.mono HB5.out.size))
  clear hb7 HT5 HX5 HB5 HP5 HU5 c0 c1 c2 c3 c4 c5 c6 c7 c8 c9 c10 cl d0 d1 d2 d3 d4 d5 d6 d7 d8 d9 d10 dl
  go_wp2_with fail
  refine (HLV.out _ HB7.out).mono ?_
  rintro e w8 ⟨rfl, hb8⟩
  have HB8 := Lib.hid (HB7.out.trans (hb8.mono HB7.out.size))
  clear hb8 HLV
  go_wp2
  go_ret
  exact ⟨rfl, HB8.out⟩

end Go.Proofs.YtbbbfjcikhpmbaaGreat

/- From the readings of the arguments to what the walks ask: a project that can be read is one in memory. -/
namespace Go.Proofs.YtbbbfjcikhpmbaaGreat
open Go Go.RowKit

variable {H : Type} {enc : TypeId × Value → H} {W : World} {sp : Nat → Bool} {held : Bool}
/-- Whatever reads as type t are the cells of some a that is all right. -/
def Opens {α : Type} (enc : TypeId × Value → H) (W : World) (sp : Nat → Bool) (held : Bool) (t : TypeId) (C : α → List Value) (Ok : α → Prop) : Prop :=
 ∀ fuel cs x, DataW.trod enc Tryz.prog W 0 sp held fuel t cs = some x → ∃ a, cs = C a ∧ Ok a
theorem opens_string : Opens enc W sp held 9 strC (fun s => s.size ≤ maxLen) := fun _ _ _ h => by
 obtain ⟨s, h1, -, h2⟩ := DataW.trod_string Tryz.underlying9 h
 exact ⟨s, h1, h2⟩
theorem cells_of {w : World} {a : Addr} {n : Nat} {cs : List Value} (h : w.cells? 0 a n = some cs) (hn : 0 < n) : cs.length = n ∧ a.spot = none ∧ a.block < w.heap.size ∧ ∀ j u, cs[j]? = some u → w.cell? ⟨a.block, a.off + j, none⟩ = some u := by
 unfold World.cells? at h
 rw [if_pos (Nat.zero_le _)] at h
 have hl : cs.length = n := by simpa using mapM_some_length h
 have hg : ∀ j, j < n → w.cell? (a.add j) = cs[j]? := fun j hj => mapM_some_get h j j (by simp [hj])
 have h00 : w.cell? a = some cs[0] := by
  have := hg 0 hn
  rw [show a.add 0 = a from rfl] at this
  rw [this]; simp
 have hsp : a.spot = none := by
  cases hs : a.spot with
  | none => rfl
  | some x =>
   exfalso
   simp only [World.cell?, hs, Option.isSome_some, if_true] at h00
   split at h00 <;> cases h00
 obtain ⟨b, o, s⟩ := a
 cases hsp
 refine ⟨hl, rfl, World.block_lt_of_cell? w _ h00, fun j u hu => ?_⟩
 have hj : j < n := by rw [← hl]; exact (List.getElem?_eq_some_iff.1 hu).1
 have := hg j hj
 rw [Addr.add_lit, hu] at this
 exact this
theorem list_snoc {α : Type} {l : List α} {y : α} {i : Nat} {z : α} (h : (l ++ [y])[i]? = some z) : (i < l.length ∧ l[i]? = some z) ∨ (i = l.length ∧ z = y) := by
 by_cases hi : i < l.length
 · left; rw [List.getElem?_append_left hi] at h; exact ⟨hi, h⟩
 · right
   rw [List.getElem?_append_right (by omega)] at h
   by_cases h1 : i - l.length = 0
   · rw [h1] at h; simp at h; exact ⟨by omega, h.symm⟩
   · rw [List.getElem?_eq_none (by simp; omega)] at h; cases h
theorem list_of {α : Type} {len : Nat} {P : Nat → α → Prop} (h : ∀ i, i < len → ∃ y, P i y) : ∃ l : List α, l.length = len ∧ ∀ i y, l[i]? = some y → P i y := by
 induction len with
 | zero => exact ⟨[], rfl, fun i y h => by simp at h⟩
 | succ len ih =>
  obtain ⟨l, hl, hP⟩ := ih (fun i hi => h i (by omega))
  obtain ⟨y, hy⟩ := h len (by omega)
  refine ⟨l ++ [y], by simp [hl], fun i z hz => ?_⟩
  rcases list_snoc hz with ⟨-, h1⟩ | ⟨rfl, rfl⟩
  · exact hP i z h1
  · rw [hl]; exact hy
theorem opens_slice {α : Type} {t e n : Nat} {C : α → List Value} {Ok : α → Prop} (ht : Tryz.prog.underlying t = some (.slice e)) (hn : Tryz.prog.cellsOf e = n) (h0 : 0 < n) (he : Opens enc W sp held e C Ok) :
    Opens enc W sp held t (fun v : Value => [v]) (fun v => ∃ l, SliceOf n C W v l ∧ ∀ a ∈ l, Ok a) := fun fuel cs x h => by
 rcases Deep.open_slice ht h with ⟨rfl, -⟩ | ⟨a, len, cap, m, n', D, Pl, rfl, -, hlc, hcm, hm, -, hel⟩
 · exact ⟨_, rfl, [], SliceOf.nil, by simp⟩
 · rw [hn] at hel
   have hlm : len ≤ m := by rw [hm]; split <;> omega
   obtain ⟨l, hl, hP⟩ := list_of (len := len) (P := fun i y => W.cells? 0 (a.add (i * n)) n = some (C y) ∧ Ok y) (fun i hi => by
    obtain ⟨cs', h1, h2⟩ := hel i (by omega)
    obtain ⟨y, rfl, hy⟩ := he _ _ _ h2
    exact ⟨y, h1, hy⟩)
   refine ⟨_, rfl, l, ⟨some a, cap, by rw [hl], by omega, hcm, by simp, fun i y hy => ?_⟩, fun y hy => ?_⟩
   · have hil : i < len := by rw [← hl]; exact (List.getElem?_eq_some_iff.1 hy).1
     obtain ⟨y0, hy0⟩ : ∃ y0, l[0]? = some y0 := ⟨l[0]'(by omega), by simp⟩
     obtain ⟨-, hs, hb, -⟩ := cells_of (hP 0 y0 hy0).1 h0
     rw [Nat.zero_mul, show a.add 0 = a from rfl] at hs hb
     obtain ⟨b, o, s⟩ := a
     cases hs
     obtain ⟨-, -, -, hc⟩ := cells_of (hP i y hy).1 h0
     rw [Addr.add_lit] at hc
     exact ⟨b, o, rfl, hb, hc⟩
   · obtain ⟨i, hi, rfl⟩ := List.mem_iff_getElem.1 hy
     exact (hP i _ (by simp [hi])).2
theorem cellsOf_str : Tryz.prog.cellsOf 9 = 1 := by kernel_rfl
theorem len2 {l : List Value} (h : l.length = 2) : ∃ c0 c1, l = [c0, c1] := by
 match l, h with
 | [c0, c1], _ => exact ⟨c0, c1, rfl⟩

end Go.Proofs.YtbbbfjcikhpmbaaGreat

/- From the readings of the arguments to what the walks ask: attributes and tokens that can be read are some in memory. -/
namespace Go.Proofs.YtbbbfjcikhpmbaaGreat
open Go Go.RowKit

variable {H : Type} {enc : TypeId × Value → H} {W : World} {sp : Nat → Bool} {held : Bool}
theorem cellsOf_attr : Tryz.prog.cellsOf 100 = 2 := by kernel_rfl
theorem cellsOf_attrs : Tryz.prog.cellsOf 22 = 1 := by kernel_rfl
/-- Sizes that any memory has. -/
def AtOk (a : At2) : Prop := a.1.length ≤ maxLen ∧ a.2.length ≤ maxLen
theorem opens_attr : Opens enc W sp held 100 atC AtOk := fun fuel cs x h => by
 obtain ⟨xs, n, -, -, hl, hxs, hf⟩ := DataW.trod_struct Tryz.underlying100 h
 rw [cellsOf_attr] at hl
 obtain ⟨c0, c1, rfl⟩ := len2 hl
 have f0 : DataW.trod enc Tryz.prog W 0 sp held n 9 (([c0, c1].drop 0).take (Tryz.prog.cellsOf 9)) = xs[0]? := hf 0 _ rfl
 rw [cellsOf_str, List.getElem?_eq_getElem (by rw [hxs]; decide)] at f0
 have f1 : DataW.trod enc Tryz.prog W 0 sp held n 9 (([c0, c1].drop 1).take (Tryz.prog.cellsOf 9)) = xs[1]? := hf 1 _ rfl
 rw [cellsOf_str, List.getElem?_eq_getElem (by rw [hxs]; decide)] at f1
 obtain ⟨a0, h0, k0⟩ := opens_string _ _ _ f0
 obtain ⟨a1, h1, k1⟩ := opens_string _ _ _ f1
 clear hf f0 f1
 cases h0
 cases h1
 refine ⟨(a0.data.toList, a1.data.toList), ?_, by rw [size_data]; exact k0, by rw [size_data]; exact k1⟩
 show _ = [Value.string (bs a0.data.toList), Value.string (bs a1.data.toList)]
 rw [data_bs, data_bs]
theorem opens_attrs : Opens enc W sp held 22 (fun v : Value => [v]) (fun v => ∃ l, SliceOf 2 atC W v l ∧ ∀ a ∈ l, AtOk a) :=
 opens_slice Tryz.underlying22 cellsOf_attr (by decide) opens_attr

end Go.Proofs.YtbbbfjcikhpmbaaGreat

/- From the reading of an argument to what the walks ask: a tree that can be read is one in memory. -/

namespace Go.Proofs.YtbbbfjcikhpmbaaGreat
open Go Go.RowKit

variable {H : Type} {enc : TypeId × Value → H} {W : World} {sp : Nat → Bool} {held : Bool}
/-- Sizes that any memory has. -/
inductive TrOk : Tr → Prop where
 | mk {n : Bs} {ats : List At2} {ks : List Tr} {x : Bs} (hn : n.length ≤ maxLen) (hx : x.length ≤ maxLen) (ha : ∀ a ∈ ats, AtOk a) (hk : ∀ k ∈ ks, TrOk k) : TrOk (.mk n ats ks x)
theorem cellsOf_node : Tryz.prog.cellsOf 25 = 4 := by kernel_rfl
theorem cellsOf_nodes : Tryz.prog.cellsOf 23 = 1 := by kernel_rfl
theorem len4 {l : List Value} (h : l.length = 4) : ∃ c0 c1 c2 c3, l = [c0, c1, c2, c3] := by
 match l, h with
 | [c0, c1, c2, c3], _ => exact ⟨c0, c1, c2, c3, rfl⟩
/-- opens_slice at one fuel. -/
theorem opens_slice_at {α : Type} {t e n fuel : Nat} {C : α → List Value} {Ok : α → Prop} (ht : Tryz.prog.underlying t = some (.slice e)) (hn : Tryz.prog.cellsOf e = n) (h0 : 0 < n) (he : ∀ fu, fu < fuel → ∀ cs x, DataW.trod enc Tryz.prog W 0 sp held fu e cs = some x → ∃ a, cs = C a ∧ Ok a) {cs : List Value} {x : DataW H × List MemPlace} (h : DataW.trod enc Tryz.prog W 0 sp held fuel t cs = some x) :
    ∃ v, cs = [v] ∧ ∃ l, SliceOf n C W v l ∧ ∀ a ∈ l, Ok a := by
 rcases DataW.trod_slice ht h with ⟨rfl, -⟩ | ⟨a, len, cap, elems, rest, n', hfu, rfl, -, -, hlc, hcm, hel, hget, -, -⟩
 · exact ⟨_, rfl, [], SliceOf.nil, by simp⟩
 · rw [hn] at hget
   obtain ⟨l, hl, hP⟩ := list_of (len := len) (P := fun i y => W.cells? 0 (a.add (i * n)) n = some (C y) ∧ Ok y) (fun i hi => by
    have h1 := hget i hi
    rw [List.getElem?_eq_getElem (by omega)] at h1
    simp only [Option.bind_eq_some_iff] at h1
    obtain ⟨cs', h2, h3⟩ := h1
    obtain ⟨y, rfl, hy⟩ := he n' (by omega) _ _ h3
    exact ⟨y, h2, hy⟩)
   refine ⟨_, rfl, l, ⟨some a, cap, by rw [hl], by omega, hcm, by simp, fun i y hy => ?_⟩, fun y hy => ?_⟩
   · have hil : i < len := by rw [← hl]; exact (List.getElem?_eq_some_iff.1 hy).1
     obtain ⟨y0, hy0⟩ : ∃ y0, l[0]? = some y0 := ⟨l[0]'(by omega), by simp⟩
     obtain ⟨-, hs, hb, -⟩ := cells_of (hP 0 y0 hy0).1 h0
     rw [Nat.zero_mul, show a.add 0 = a from rfl] at hs hb
     obtain ⟨b, o, s⟩ := a
     cases hs
     obtain ⟨-, -, -, hc⟩ := cells_of (hP i y hy).1 h0
     rw [Addr.add_lit] at hc
     exact ⟨b, o, rfl, hb, hc⟩
   · obtain ⟨i, hi, rfl⟩ := List.mem_iff_getElem.1 hy
     exact (hP i _ (by simp [hi])).2
theorem opens_node_at : ∀ (fuel : Nat) (cs : List Value) (x : DataW H × List MemPlace), DataW.trod enc Tryz.prog W 0 sp held fuel 25 cs = some x → ∃ y : TrV, cs = trC y ∧ NodeOf W y.1 y.2.1 y.2.2 ∧ TrOk y.1 := by
 intro fuel
 induction fuel using Nat.strongRecOn with
 | _ fuel ih =>
 intro cs x h
 obtain ⟨xs, n, hfu, -, hl, hxs, hf⟩ := DataW.trod_struct Tryz.underlying25 h
 rw [cellsOf_node] at hl
 obtain ⟨c0, c1, c2, c3, rfl⟩ := len4 hl
 have f0 : DataW.trod enc Tryz.prog W 0 sp held n 9 (([c0, c1, c2, c3].drop 0).take (Tryz.prog.cellsOf 9)) = xs[0]? := hf 0 _ rfl
 rw [cellsOf_str, List.getElem?_eq_getElem (by rw [hxs]; decide)] at f0
 have f1 : DataW.trod enc Tryz.prog W 0 sp held n 22 (([c0, c1, c2, c3].drop 1).take (Tryz.prog.cellsOf 22)) = xs[1]? := hf 1 _ rfl
 rw [cellsOf_attrs, List.getElem?_eq_getElem (by rw [hxs]; decide)] at f1
 have f2 : DataW.trod enc Tryz.prog W 0 sp held n 23 (([c0, c1, c2, c3].drop 2).take (Tryz.prog.cellsOf 23)) = xs[2]? := hf 2 _ rfl
 rw [cellsOf_nodes, List.getElem?_eq_getElem (by rw [hxs]; decide)] at f2
 have f3 : DataW.trod enc Tryz.prog W 0 sp held n 9 (([c0, c1, c2, c3].drop 3).take (Tryz.prog.cellsOf 9)) = xs[3]? := hf 3 _ rfl
 rw [cellsOf_str, List.getElem?_eq_getElem (by rw [hxs]; decide)] at f3
 obtain ⟨a0, h0, k0⟩ := opens_string _ _ _ f0
 obtain ⟨a1, h1, l1, hl1, hok1⟩ := opens_attrs _ _ _ f1
 obtain ⟨a2, h2, L, hL, hokL⟩ := opens_slice_at (C := trC) (Ok := fun y : TrV => NodeOf W y.1 y.2.1 y.2.2 ∧ TrOk y.1) Tryz.underlying23 cellsOf_node (by decide) (fun fu hlt cs x hx => ih fu (by omega) cs x hx) f2
 obtain ⟨a3, h3, k3⟩ := opens_string _ _ _ f3
 clear hf f0 f1 f2 f3
 cases h0
 cases h1
 cases h2
 cases h3
 refine ⟨(.mk a0.data.toList l1 (L.map (·.1)) a3.data.toList, c1, c2), ?_, .mk L hl1.toX rfl hL.toX (fun y hy => (hokL y hy).1), .mk (by rw [size_data]; exact k0) (by rw [size_data]; exact k3) hok1 (fun k hk => ?_)⟩
 · show _ = [Value.string (bs a0.data.toList), c1, c2, Value.string (bs a3.data.toList)]
   rw [data_bs, data_bs]
 · obtain ⟨y, hy, rfl⟩ := List.mem_map.1 hk
   exact (hokL y hy).2
theorem opens_node : Opens enc W sp held 25 trC (fun y : TrV => NodeOf W y.1 y.2.1 y.2.2 ∧ TrOk y.1) := opens_node_at

end Go.Proofs.YtbbbfjcikhpmbaaGreat

/- From a walk to a row: a law that returns true and turns nothing that was there. -/
namespace Go.Proofs.YtbbbfjcikhpmbaaGreat
open Go Go.ChangeShapes Go.WideShapes Go.ChangeAt Go.RowKit

theorem own : ownKnob Tryz.prog.godebug = none := by kernel_rfl
theorem laidOut : laidOutB Tryz.prog = true := by kernel_rfl
theorem trodAll_below {H : Type} {enc : TypeId × Value → H} {W W' : World} (hb : Below W.heap.size W W') : ∀ {ts : List TypeId} {vs : List Value} {ds : List (DataW H)} {ps : List MemPlace},
    (∀ t ∈ ts, Tryz.prog.readableRec t = true ∧ t < Tryz.prog.types.size) → DataW.TrodAll enc Tryz.prog W 0 (fun _ => true) true ts vs ds ps → (∀ x ∈ ps, x.block < W.heap.size) →
    DataW.TrodAll enc Tryz.prog W' 0 (fun b => decide (b < W.heap.size)) true ts vs ds ps
 | [], [], [], _, _, h, _ => h
 | t :: ts, v :: vs, d :: ds, ps, hr, h, hlt => by
  obtain ⟨p, q, h1, h2, rfl⟩ := h
  exact ⟨p, q, Below.trod laidOut (hr t (by simp)).1 (hr t (by simp)).2 h1 hb (fun x hx => hlt x (by simp [hx])),
   trodAll_below hb (fun u hu => hr u (by simp [hu])) h2 (fun x hx => hlt x (by simp [hx])), rfl⟩
 | [], [], _ :: _, _, _, h, _ => h.elim
 | [], _ :: _, _, _, _, h, _ => h.elim
 | _ :: _, [], _, _, _, h, _ => h.elim
 | _ :: _, _ :: _, [], _, _, h, _ => h.elim

end Go.Proofs.YtbbbfjcikhpmbaaGreat

/- Whatever the input, the law PomReads returns true, and its arguments read behind the call as before; no conditions. -/
namespace Go.Proofs.YtbbbfjcikhpmbaaGreat
open Go Go.ChangeShapes Go.WideShapes Go.ChangeAt Go.RowKit Go.ChangeMaps

theorem rt_node : Tryz.prog.readableRec 25 = true := by kernel_rfl
theorem lt_node : 25 < Tryz.prog.types.size := of_decide_eq_true (by kernel_rfl)
set_option maxRecDepth 100000 in
theorem open_node {H : Type} {enc : TypeId × Value → H} {W : World} {base : Nat} {v : Value} {d : DataW H} {p : List MemPlace} (hval : Value.okWide Tryz.prog W .any base 25 v)
    (h : DataW.Trod enc Tryz.prog W 0 (fun _ => true) true 25 v d p) : ∃ t av kv, v = nodeV t av kv ∧ NodeOf W t av kv ∧ TrOk t := by
 obtain ⟨fuel, hf⟩ := h
 obtain ⟨⟨t, av, kv⟩, hcs, hok, ho2⟩ := opens_node _ _ _ hf
 refine ⟨t, av, kv, ?_, hok, ho2⟩
 simp only [Value.okWide, Tryz.underlying25] at hval
 obtain ⟨cs, rfl, -⟩ := hval
 simp only [Value.cells] at hcs
 show Value.agg cs = Value.agg (trC (t, av, kv)).toArray
 rw [← hcs]
set_option maxRecDepth 100000 in
theorem pomReads_lifted (os : Os) (started : os.Started) (H : Type) (enc : TypeId × Value → H) :
    ReturnsInHanded {} Tryz.checked os 3 .any (Rows.pomReadsSpec.pre6 enc Tryz.prog Tryz.f3 Rows.pomReadsRow.domain false) (Rows.pomReadsSpec.post enc Tryz.prog Tryz.f3 false true false false) := by
 refine returnsInHanded_of_change_shaped (C := Tryz.checked) own started (by kernel_rfl) Tryz.func3
  (ChangeSpec.witness6 (enc := enc) (C := Tryz.checked) false ⟨#[], #[.agg #[.string .empty, .slice none 0 0, .slice none 0 0, .string .empty]], []⟩ 8 (by kernel_rfl) (by kernel_rfl) (by kernel_rfl) (by kernel_rfl)) ?_
 intro W base args ds gs before hval0 hW hcnd _ hsh _
 have hval : ∀ (j : Nat) t v, Tryz.f3.params[j]? = some t → args[j]? = some v → Value.okWide Tryz.prog W .any base t v := hval0
 have hW' := hW
 obtain ⟨p, q, hA0, hV, rfl, hfz, hnd⟩ := hW
 have hA : DataW.TrodAll enc Tryz.prog W 0 (fun _ => true) true Tryz.f3.params.toList args.toList ds p := hA0
 have hA' := hA
 rw [Tryz.params3] at hA hval
 obtain ⟨v0, d0, rfl, rfl, h0⟩ := trodAll_one hA
 obtain ⟨rfl, rfl⟩ := trodVars_none hV
 obtain ⟨t0, av0, kv0, rfl, hn0, ho0⟩ := open_node (hval 0 25 v0 rfl rfl) h0
 clear hA0 hval0
 obtain ⟨m, hm⟩ : ∃ m, W.cell? ⟨0, 0, none⟩ = some (.int .i64 m) := Tryz.laysM219.s1_3 W hsh
 have hlt : ∀ x ∈ p, x.block < W.heap.size := fun x hx => by simpa using hW'.lt x (by simpa using hx)
 refine (pomReadsLaw_any t0 av0 kv0 m W hn0 hm).mono fun en W' ⟨he, hb⟩ => ?_
 subst he
 refine ⟨_, rfl, _, _, _, [], p, [], hW', trodAll_mk1 (shut_bool Tryz.underlying4 _), trodAll_below hb ?_ hA' hlt, rfl, hb.frame _, fun h => by cases h⟩
 rw [Tryz.params3]
 intro t ht
 simp at ht
 subst ht
 exact ⟨rt_node, lt_node⟩
theorem pomReads_holds : Rows.PomReadsSaid :=
 OpenClaim.holds_of_wide 3 Tryz.f3 rfl rfl rfl rfl rfl rfl rfl ⟨rfl, rfl, rfl, rfl, rfl⟩ rfl rfl rfl rfl rfl (by kernel_rfl) Tryz.func3 (by kernel_rfl)
  (of_decide_eq_true (by kernel_rfl)) (by unfold Func.isWrapper; rw [if_neg (of_decide_eq_false (by kernel_rfl))]; exact ⟨rfl, rfl⟩)
  (fun os started H enc _ => pomReads_lifted os started H enc)

#print axioms pomReads_holds

end Go.Proofs.YtbbbfjcikhpmbaaGreat
