/- The walk of a field's word in pom's reader, at any test of it; the conditions stand in the theorem. -/
import Derived.Test.YtphaeegbmfpcgaaGreatDoorFB12
import Derived.Laws.EntriesVeiled
import Derived.Test.YtphaeegbmfpcgaaGreatDoorFB11
import Derived.Test.YtphaeegbmfpcgaaGreatDoorFB03
import Derived.Deep.RegionLaw
import Derived.Deep.RegionLawGrows
import Derived.Deep.AppendLies
import Derived.Deep.RegionHeld3
import Derived.IntWalk

namespace Go.Proofs.YtphaeegbmfpcgaaGreatDoor
open Go Go.RowKit

/-- A tree whose lists and texts are not too long. -/
inductive Mild : Tr → Prop where
 | of {t : Tr} (hk : t.kids.length ≤ 100000) (hx : (textF t.kids).length ≤ 1000000000) (hn : t.name.length ≤ 1000000000) (h : ∀ k ∈ t.kids, Mild k) : Mild t
theorem Mild.name {t : Tr} (h : Mild t) : t.name.length ≤ 1000000000 := by cases h; assumption
/-- The like; only the names of properties are bounded. -/
inductive MildW : Tr → Prop where
 | of {t : Tr} (hk : t.kids.length ≤ 100000) (hx : (textF t.kids).length ≤ 1000000000) (hn : t.name = bProperties → ∀ k ∈ t.kids, k.name.length ≤ 1000000000) (h : ∀ k ∈ t.kids, MildW k) : MildW t
theorem MildW.kl {t : Tr} (h : MildW t) : t.kids.length ≤ 100000 := by cases h; assumption
theorem MildW.txt {t : Tr} (h : MildW t) : (textF t.kids).length ≤ 1000000000 := by cases h; assumption
theorem MildW.pname {t : Tr} (h : MildW t) : t.name = bProperties → ∀ k ∈ t.kids, k.name.length ≤ 1000000000 := by cases h; assumption
theorem MildW.kids {t : Tr} (h : MildW t) : ∀ k ∈ t.kids, MildW k := by cases h; assumption
theorem Mild.weak {t : Tr} (h : Mild t) : MildW t := by
 induction h with
 | of hk hx hn h ih => exact .of hk hx (fun _ k hk => (h k hk).name) ih
theorem kidsF_sub {m : Bs} {l : List Tr} {k : Tr} (h : k ∈ kidsF m l) : k ∈ l := (List.mem_filter.1 h).1
theorem oneV_mem {t : Tr} {m : Bs} {k : Tr} (h : oneV t m = some k) : k ∈ t.kids := kidsF_sub (List.mem_of_mem_head? h)
theorem MildW.one {t : Tr} (h : MildW t) {m : Bs} {k : Tr} (hk : oneV t m = some k) : MildW k := h.kids k (oneV_mem hk)
theorem oneV_name {t k : Tr} {m : Bs} (h : oneV t m = some k) (hm : m ≠ []) : k.name = m := by
 have h1 := (List.mem_filter.1 (List.mem_of_mem_head? h)).2
 unfold isKid at h1
 simp only [Bool.and_eq_true, Bool.or_eq_true, decide_eq_true_eq] at h1
 rcases h1.2 with h2 | h2
 · simp at h2; exact absurd h2 hm
 · exact h2
/-- A function value that tests texts as r does, in every later world. -/
def Tests (w : World) (F : FuncId) (caps : Array Value) (r : Bs → Bool) : Prop :=
 (∀ (args : Array Value) (W : World), (callFunc F args).run Tryz.prog W = .ok (.enter F args) W) ∧ ∀ (s : Bs) (W : World), Below w.heap.size w W → s.length ≤ 1024 → Calls Tryz.prog F (#[.string (bs s)] ++ caps) W fun e w' => e = .returned (.bool (r s)) ∧ Below W.heap.size W w'
theorem textE_none {t : Tr} {w : Bs} {e : Bool} (h : textE t w e = none) : (textV t).length ≤ 1024 := by
 unfold textE textBad at h
 unfold textV
 split at h
 · cases h
 · rename_i hc
   simp only [Bool.or_eq_true, not_or, decide_eq_true_eq] at hc
   omega
set_option maxRecDepth 100000 in
set_option maxHeartbeats 8000000 in
theorem wordQ_any (F : FuncId) (caps : Array Value) (r : Bs → Bool) (t : Tr) (wh m : Bs) (must : Bool) (w : World) (av kv : Value) (ht : NodeOf w t av kv) (hm : MildW t) (hl : wh.length + m.length ≤ 1000000000000) (hT : Tests w F caps r) :
    Calls Tryz.prog 86 #[elemV t av kv wh, .string (bs m), .bool must, .func (.func F) #[] caps] w (Ret (wordE t wh m must r) (fun e _ => e = .returned (.string (bs (wordV t m)))) w) := by
 obtain ⟨ao, ac, ko, kc, rfl, rfl, hal, -⟩ := ht.shape
 have HF : Hid (∀ W, Below w.heap.size w W → Calls Tryz.prog 85 #[elemV t (.slice ao t.attrs.length ac) (.slice ko t.kids.length kc) wh, .string (bs m)] W (Ret (manyE t wh m) (FieldP wh m (oneV t m)) W)) := fun W h => field_any t wh m W _ _ (ht.later h) hm.kl hl
 have HT := Lib.hid hT
 have HM := Lib.hid hm
 have HE : Hid (wordE t wh m must r = (manyE t wh m).or (match oneV t m with
  | none => if must then some (20, sl wh m) else none
  | some k => (textE k (sl wh m) false).or (if r (textV k) then none else some (20, sl wh m)))) := rfl
 have HV : Hid (wordV t m = match oneV t m with
  | none => []
  | some k => textV k) := rfl
 obtain ⟨E, hE⟩ : ∃ E, E = wordE t wh m must r := ⟨_, rfl⟩
 obtain ⟨V, hV⟩ : ∃ V, V = wordV t m := ⟨_, rfl⟩
 rw [← hE] at HE ⊢
 rw [← hV] at HV ⊢
 clear hE hV ht hT hm
 obtain ⟨X, hX⟩ : ∃ X : S, X = bs wh := ⟨_, rfl⟩
 obtain ⟨M, hM⟩ : ∃ M : S, M = bs m := ⟨_, rfl⟩
 obtain ⟨Y, hY⟩ : ∃ Y : S, Y = bs (sl wh m) := ⟨_, rfl⟩
 have HY : Hid ((bs (sl wh m) : S) = Y) := hY.symm
 unfold elemV at HF ⊢
 rw [← hX, ← hM] at HF ⊢
 clear hX hM
 go_enter Tryz.func86, Tryz.ntmps86
 go_upto_region 1 with fail
 refine wp_world ?_
 intro W hW
 have x1 : Box W w.heap.size [.string (bs t.name), .slice ao t.attrs.length ac, .slice ko t.kids.length kc, .string (bs t.text), .string X] := by rw [hW]; exact Box.new w [.string (bs t.name), .slice ao t.attrs.length ac, .slice ko t.kids.length kc, .string (bs t.text), .string X] _ _ rfl
 have hb : Below w.heap.size w W := by rw [hW]; exact (Below.refl _ w).alloc (Nat.le_refl _) _
 clear hW
 have HX1 := Lib.hid x1
 have HB := Lib.hid hb
 clear x1 hb
 obtain ⟨a0, a1, a2, a3, a4⟩ := bxc5 HX1.out
 have al := HX1.out.lt
 go_wp2_with fail
 refine (HF.out _ HB.out).mono ?_
 rintro e w1 ⟨hb1, hp, hq⟩
 have HB1 := Lib.hid (HB.out.trans (hb1.mono HB.out.size))
 clear a0 a1 a2 a3 a4 al HF HX1 hb1
 cases hM : manyE t wh m with
 | some x =>
  obtain rfl := hp x hM
  have HR : Hid (E = some x) := by show _ = _; rw [HE.out, hM]; rfl
  clear hp hq hM HE HV
  unfold panE
  go_wp2
  exact ⟨rfl, Ret.bad HR.out HB1.out rfl⟩
 | none =>
  have hq := hq hM
  rw [hM, Option.none_or] at HE
  clear hp hM
  cases hO : oneV t m with
  | none =>
   rw [hO] at HE HV hq
   simp only [FieldP, FieldX] at hq
   rw [← hY] at hq
   subst hq
   have HVE : Hid (V = []) := HV.out
   clear hO HV hY
   cases must with
   | true =>
    have HR : Hid (E = some (20, sl wh m)) := HE.out
    clear HE
    go_upto_region 2 with fail
    refine wp_world ?_
    intro W2 hW2
    have x2 : Box W2 w1.heap.size [.string ⟨#[]⟩, .slice none 0 0, .slice none 0 0, .string ⟨#[]⟩, .string Y] := by rw [hW2]; exact Box.new w1 [.string ⟨#[]⟩, .slice none 0 0, .slice none 0 0, .string ⟨#[]⟩, .string Y] _ _ rfl
    have hb2 : Below w.heap.size w W2 := by rw [hW2]; exact HB1.out.alloc HB1.out.size _
    clear hW2
    have HX2 := Lib.hid x2
    have HB2 := Lib.hid hb2
    clear x2 hb2
    obtain ⟨a0, a1, a2, a3, a4⟩ := bxc5 HX2.out
    have al := HX2.out.lt
    go_wp2_with fail
    refine (failQ_any _ _ _).mono ?_
    rintro e w9 ⟨rfl, rfl⟩
    go_wp2
    refine ⟨rfl, Ret.bad HR.out HB2.out ?_⟩
    unfold panE faultQ
    rw [HY.out]
   | false =>
    have HR : Hid (E = none) := HE.out
    clear HE
    have HB2 : Hid (∀ o, Below w.heap.size w (w1.alloc o)) := fun o => HB1.out.alloc HB1.out.size o
    go_wp2
    go_ret
    refine Ret.good HR.out (HB2.out _) ?_
    rw [HVE.out]
    rfl
  | some k =>
   rw [hO] at HE HV hq
   obtain ⟨av2, kv2, rfl, hn⟩ := hq
   obtain ⟨p1, p2, p3, p4, rfl, rfl, -, -⟩ := hn.shape
   have HVE : Hid (V = textV k) := HV.out
   have HER : Hid (E = (textE k (sl wh m) false).or (if r (textV k) then none else some (20, sl wh m))) := HE.out
   have hmk := HM.out.one hO
   clear HE HV hO
   have HN := Lib.hid hn
   have HTX : Hid (∀ W, Below w1.heap.size w1 W → Calls Tryz.prog 130 #[.agg #[.string (bs k.name), .slice p1 k.attrs.length p2, .slice p3 k.kids.length p4, .string (bs k.text), .string Y], .bool false] W (Ret (textE k (sl wh m) false) (fun e _ => e = .returned (.string (bs (textV k)))) W)) := fun W h => by
    rw [hY]; exact textQ_any k (sl wh m) false W _ _ (HN.out.later h) hmk.kl hmk.txt
   clear hn hmk
   unfold elemV
   rw [← hY]
   clear hY
   go_upto_region 2 with fail
   refine wp_world ?_
   intro W2 hW2
   have x2 : Box W2 w1.heap.size [.string (bs k.name), .slice p1 k.attrs.length p2, .slice p3 k.kids.length p4, .string (bs k.text), .string Y] := by rw [hW2]; exact Box.new w1 [.string (bs k.name), .slice p1 k.attrs.length p2, .slice p3 k.kids.length p4, .string (bs k.text), .string Y] _ _ rfl
   have hb2 : Below w.heap.size w W2 := by rw [hW2]; exact HB1.out.alloc HB1.out.size _
   have hb12 : Below w1.heap.size w1 W2 := by rw [hW2]; exact (Below.refl _ w1).alloc (Nat.le_refl _) _
   clear hW2
   have HX2 := Lib.hid x2
   have HB2 := Lib.hid hb2
   have HB12 := Lib.hid hb12
   clear x2 hb2 hb12
   obtain ⟨a0, a1, a2, a3, a4⟩ := bxc5 HX2.out
   have al := HX2.out.lt
   go_wp2_with fail
   refine (HTX.out _ HB12.out).mono ?_
   rintro e w3 ⟨hb3, hp, hq⟩
   have HB3 := Lib.hid (HB2.out.trans (hb3.mono HB2.out.size))
   have HX3 := Lib.hid (HX2.out.below hb3 HX2.out.lt)
   clear a0 a1 a2 a3 a4 al HTX hb3 HX2
   cases hM : textE k (sl wh m) false with
   | some x =>
    obtain rfl := hp x hM
    have HR : Hid (E = some x) := by show _ = _; rw [HER.out, hM]; rfl
    clear hp hq hM HER HVE
    unfold panE
    go_wp2
    exact ⟨rfl, Ret.bad HR.out HB3.out rfl⟩
   | none =>
    obtain rfl := hq hM
    have hle := textE_none hM
    have HRR : Hid (E = if r (textV k) then none else some (20, sl wh m)) := by show _ = _; rw [HER.out, hM]; rfl
    clear hp hq hM HER
    have HTT := Lib.hid (HT.out.2 (textV k) w3 HB3.out hle)
    generalize hS : (bs (textV k) : S) = Z at *
    have HSZ := Lib.hid hS
    clear hS hle
    go_wp2_with fail
    rw [HT.out.1, Oper.upon_enter]
    refine HTT.out.mono ?_
    rintro e w4 ⟨rfl, hb4⟩
    have HB4 := Lib.hid (HB3.out.trans (hb4.mono HB3.out.size))
    have HX4 := Lib.hid (HX3.out.below hb4 HX3.out.lt)
    clear HTT hb4 HX3
    obtain ⟨a0, a1, a2, a3, a4⟩ := bxc5 HX4.out
    have al := HX4.out.lt
    obtain ⟨b, hb⟩ : ∃ b, b = r (textV k) := ⟨_, rfl⟩
    rw [← hb] at HRR ⊢
    clear hb
    cases b with
    | true =>
     have HR : Hid (E = none) := HRR.out
     clear HRR
     go_wp2
     go_ret
     refine Ret.good HR.out HB4.out ?_
     rw [HVE.out, HSZ.out]
     rfl
    | false =>
     have HR : Hid (E = some (20, sl wh m)) := HRR.out
     clear HRR
     go_wp2_with fail
     refine (failQ_any _ _ _).mono ?_
     rintro e w9 ⟨rfl, rfl⟩
     go_wp2
     refine ⟨rfl, Ret.bad HR.out HB4.out ?_⟩
     unfold panE faultQ
     rw [HY.out]

end Go.Proofs.YtphaeegbmfpcgaaGreatDoor

/- Walks of the tests that pom's reader makes of texts; the conditions stand in the theorems. -/
namespace Go.Proofs.YtphaeegbmfpcgaaGreatDoor
open Go Go.RowKit

def isPartS (s : S) : Bool := (s.toList == [42]) || isIdB s
theorem isPart_bs (s : Bs) : isPartS (bs s) = isPartQ s := by
 unfold isPartS isPartQ isIdQ
 have h := bs_beq2 s [42]
 have h2 : ((bs [42] : S)).toList = [42] := by decide +kernel
 rw [h2] at h
 rw [h]
theorem isWild_any (s : S) (w : World) (hs : s.size ≤ 9223372036854775807) : Calls Tryz.prog 214 #[.string s] w fun e w' => e = .returned (.bool (isPartS s)) ∧ Below w.heap.size w w' := by
 have HI := Lib.hid (isId_any s w hs)
 unfold isPartS
 generalize isIdB s = b at *
 go_enter Tryz.func214, Tryz.ntmps214
 generalize hq : (s.toList == [42]) = q at *
 cases q with
 | true =>
  go_wp2
  go_ret
  exact ⟨rfl, Below.refl _ _⟩
 | false =>
  go_wp2_with fail
  refine HI.out.mono ?_
  rintro e w1 ⟨rfl, hb⟩
  have HB := Lib.hid hb
  clear hb HI
  go_wp2
  go_ret
  exact ⟨by cases b <;> rfl, HB.out⟩
set_option maxHeartbeats 1000000 in
theorem mayPattern_any (x : Id) (w : World) (hg : x.group.size ≤ 9223372036854775807) (ha : x.artifact.size ≤ 9223372036854775807) : Calls Tryz.prog 202 #[.agg #[.string x.group, .string x.artifact]] w fun e w' => e = .returned (.bool (isPartS x.group && isPartS x.artifact)) ∧ Below w.heap.size w w' := by
 obtain ⟨g, a⟩ := x
 simp only at *
 have HG := Lib.hid (fun W => isWild_any g W hg)
 have HA := Lib.hid (fun W => isWild_any a W ha)
 have HB : Hid (∀ o, Below w.heap.size w (w.alloc o)) := fun o => (Below.refl _ w).alloc (Nat.le_refl _) _
 generalize isPartS g = p at *
 generalize isPartS a = q at *
 clear hg ha
 go_enter Tryz.func202, Tryz.ntmps202
 go_wp2_with fail
 refine (HG.out _).mono ?_
 rintro e w1 ⟨rfl, hb⟩
 have HX := Lib.hid ((Box.new w [.string g, .string a] 24 _ rfl).below hb (by simp))
 have HB1 := Lib.hid ((HB.out _).trans (hb.mono (HB.out (.cells #[.string g, .string a] 24)).size))
 have c0 := HX.out.cell 0 _ rfl
 have c1 := HX.out.cell 1 _ rfl
 have cl := HX.out.lt
 clear hb
 cases p with
 | false =>
  go_wp2
  go_ret
  exact ⟨rfl, HB1.out⟩
 | true =>
  go_wp2_with fail
  refine (HA.out _).mono ?_
  rintro e w2 ⟨rfl, hb2⟩
  have HB2 := Lib.hid (HB1.out.trans (hb2.mono HB1.out.size))
  clear hb2
  go_wp2
  go_ret
  exact ⟨by cases q <;> rfl, HB2.out⟩
theorem tests_free (w : World) : Tests w 87 #[] freeB := by
 refine ⟨fun args W => by kernel_rfl, fun s W _ _ => ?_⟩
 go_enter Tryz.func87, Tryz.ntmps87
 go_wp2
 go_ret
 exact ⟨rfl, Below.refl _ _⟩
theorem tests_id (w : World) : Tests w 53 #[] isIdQ :=
 ⟨fun args W => by kernel_rfl, fun s W _ hs => isId_any (bs s) W (by rw [bs_size]; omega)⟩
theorem tests_ver (w : World) : Tests w 54 #[] verQ :=
 ⟨fun args W => by kernel_rfl, fun s W _ hs => ver_any (bs s) W (by rw [bs_size]; omega)⟩
theorem tests_truth (w : World) : Tests w 172 #[] isTruthB := by
 refine ⟨fun args W => by kernel_rfl, fun s W _ _ => ?_⟩
 have h1 := bs_beq2 s bTrue
 have h2 := bs_beq2 s bFalse
 rw [show ((bs bTrue : S)).toList = [116, 114, 117, 101] from by decide +kernel] at h1
 rw [show ((bs bFalse : S)).toList = [102, 97, 108, 115, 101] from by decide +kernel] at h2
 unfold isTruthB
 generalize decide (s = bTrue) = p at *
 generalize decide (s = bFalse) = q at *
 show Calls Tryz.prog 172 #[.string (bs s)] W _
 generalize (bs s : S) = Z at *
 go_enter Tryz.func172, Tryz.ntmps172
 cases p <;> cases q <;> go_wp2 <;> go_ret <;> exact ⟨rfl, Below.refl _ _⟩
theorem tests_part (w : World) : Tests w 173 #[] isPartQ := by
 refine ⟨fun args W => by kernel_rfl, fun s W _ hs => ?_⟩
 have HP := Lib.hid (fun W => mayPattern_any ⟨bs s, bs s⟩ W (by rw [bs_size]; omega) (by rw [bs_size]; omega))
 simp only [isPart_bs, Bool.and_self] at HP
 show Calls Tryz.prog 173 #[.string (bs s)] W _
 generalize (bs s : S) = Z at *
 go_enter Tryz.func173, Tryz.ntmps173
 go_wp2_with fail
 refine (HP.out _).mono ?_
 rintro e w1 ⟨rfl, hb⟩
 have HB := Lib.hid hb
 clear hb
 go_wp2
 go_ret
 exact ⟨rfl, HB.out⟩
set_option maxHeartbeats 1000000 in
theorem tests_scope (w : World) (b : Nat) (m : Bool) (hb : b < w.heap.size) (hc : w.cell? ⟨b, 0, none⟩ = some (.bool m)) : Tests w 201 #[.pointer (some ⟨b, 0, none⟩)] (isScopeQ m) := by
 refine ⟨fun args W => by kernel_rfl, fun s W hW _ => ?_⟩
 have c0 := (hW.cell (p := ⟨b, 0, none⟩) (by exact hb)).trans hc
 have hlt : b < W.heap.size := Nat.lt_of_lt_of_le hb hW.size
 have HS := Lib.hid (fun W => scope_any s W)
 show Calls Tryz.prog 201 #[.string (bs s), .pointer (some ⟨b, 0, none⟩)] W _
 unfold isScopeQ
 generalize scopeW s = n at *
 generalize (bs s : S) = Z at *
 obtain ⟨x, hx⟩ : ∃ x, x = decide (n ≠ 0) := ⟨_, rfl⟩
 obtain ⟨y, hy⟩ : ∃ y, y = decide (n ≠ 6) := ⟨_, rfl⟩
 rw [← hx] at HS ⊢
 rw [← hy]
 have h6 : (n != 6) = y := by rw [hy]; by_cases h : n = 6 <;> simp [h]
 clear hx hy hc hW hb
 go_enter Tryz.func201, Tryz.ntmps201
 go_wp2_with fail
 refine (HS.out _).mono ?_
 rintro e w1 ⟨rfl, rfl⟩
 cases x <;> cases m <;> cases y <;> go_wp2 <;> go_ret <;> exact ⟨rfl, Below.refl _ _⟩

end Go.Proofs.YtphaeegbmfpcgaaGreatDoor

/- Walks: the program's text of a number; the conditions stand in the theorem. -/

namespace Go.Proofs.YtphaeegbmfpcgaaGreatDoor
open Go Go.RowKit

def digQ (n : Nat) : UInt8 := UInt8.ofNat (48 + n)
def numD (k : Nat) (P : Bs) : Bs := if k = 0 then P else numP k ++ P
theorem numD_step {k : Nat} (P : Bs) (h : 0 < k) : numD k P = numD (k / 10) (digQ (k % 10) :: P) := by
 unfold numD
 rw [if_neg (by omega)]
 by_cases h10 : k < 10
 · rw [numP, if_pos h10, if_pos (by omega), Nat.mod_eq_of_lt h10]; rfl
 · rw [numP, if_neg h10, if_neg (by omega)]
   simp [digQ]
def digitsS : S := ⟨#[48, 49, 50, 51, 52, 53, 54, 55, 56, 57]⟩
theorem digits_at (d : Nat) (h : d < 10) : digitsS.extract d (d + 1) = bs [digQ d] := by
 rcases (by omega : d = 0 ∨ d = 1 ∨ d = 2 ∨ d = 3 ∨ d = 4 ∨ d = 5 ∨ d = 6 ∨ d = 7 ∨ d = 8 ∨ d = 9) with rfl | rfl | rfl | rfl | rfl | rfl | rfl | rfl | rfl | rfl <;> decide +kernel
theorem numP_len (n : Nat) : (numP n).length ≤ n + 1 := by
 induction n using Nat.strongRecOn with
 | ind n ih =>
  rw [numP]
  split
  · simp
  · rename_i h
    have := ih (n / 10) (by omega)
    simp only [List.length_append, List.length_cons, List.length_nil]
    omega
set_option maxRecDepth 100000 in
set_option maxHeartbeats 4000000 in
theorem numberQ_any (n : Nat) (w : World) (h0 : 0 < n) (hn : n ≤ 1000000) : Calls Tryz.prog 169 #[.int .i64 n] w fun e w' => e = .returned (.string (bs (numP n))) ∧ w = w' := by
 go_enter Tryz.func169, Tryz.ntmps169
 go_wp2
 go_loopw [3, 0] (fun s i wr => ∃ (k : Nat) (P : Bs) (Z : S), s = .string Z ∧ i = .int .i64 k ∧ wr = w ∧ k ≤ n ∧ Hid (Z = bs P ∧ numD k P = numP n ∧ P.length + k ≤ n)) (fun _ i _ => (intOf i).toNat)
 case atStart => exact ⟨n, [], ⟨#[]⟩, rfl, rfl, rfl, Nat.le_refl _, rfl, by unfold numD; rw [if_neg (by omega)]; simp, by simp⟩
 case round =>
  obtain ⟨k, P, Z, rfl, rfl, hw, hk, HR⟩ := hrel
  subst hw
  by_cases hk0 : 0 < k
  · have hki : (0 : Int) < (k : Int) := by omega
    have hm : (k : Int).tmod 10 = ((k % 10 : Nat) : Int) := by rw [Int.tmod_eq_emod_of_nonneg (by omega)]; rfl
    have hd : (k : Int).tdiv 10 = ((k / 10 : Nat) : Int) := by rw [Int.tdiv_eq_ediv_of_nonneg (by omega)]; rfl
    have hlt : k % 10 < 10 := Nat.mod_lt _ (by decide)
    have hle := HR.out.2.2
    have hzs : Z.size = P.length := by rw [HR.out.1, bs_size]
    have hxs : (ByteArray.extract ⟨#[48, 49, 50, 51, 52, 53, 54, 55, 56, 57]⟩ (k % 10) (k % 10 + 1)).size = 1 := by
     have := digits_at _ hlt
     unfold digitsS at this
     rw [this, bs_size]; rfl
    have hz : ¬ 9223372036854775807 < 1 + Z.size := by omega
    clear hle hzs
    go_wp2
    refine ⟨⟨k / 10, digQ (k % 10) :: P, _, rfl, by congr 1, trivial, by omega, ?_, ?_, ?_⟩, ?_⟩
    · have := digits_at _ hlt
      unfold digitsS at this
      rw [this, HR.out.1, bs_append]; rfl
    · rw [← numD_step P hk0]; exact HR.out.2.1
    · have := HR.out.2.2
      simp only [List.length_cons]; omega
    · simp [intOf]; omega
  · obtain rfl : k = 0 := by omega
    go_wp2
    go_ret
    have h1 : P = numP n := by have := HR.out.2.1; unfold numD at this; simpa using this
    exact ⟨by rw [← h1, ← HR.out.1]; rfl, rfl⟩

end Go.Proofs.YtphaeegbmfpcgaaGreatDoor

/- append of slices that read as lists, as a step of a region that draws its order; no program in sight. -/
namespace Go.Proofs.YtphaeegbmfpcgaaGreatDoor
open Go Go.RowKit

/-- append of any slice to one of the call's own. -/
theorem wp_append_slice {α : Type} {P : Program} (w : World) {o : Oper} {a : Act} {K : Act → World → Prop} {Q : Exit → Act → World → Prop} (s x : Operand) (t : TypeId)
    (ho : o.op = .call { callee := .builtin .append, args := #[s, x], argTypes := #[t, t] })
    (base : Nat) (e : TypeId) {z : Value} {size bytes : Nat} (ht : P.underlying t = some (.slice e)) (hinfo : (P.info? e).map (fun i => (i.zero, i.size, i.bytes)) = some (some z, size, bytes)) (hzs : z.cells.size = size) (hsz : 0 < size) {C : α → List Value} (hC : ∀ y, (C y).length = size)
    (v : Value) (l : List α) (hs : a.eval s = v) (hown : Owns base e size C w v l) (v2 : Value) (l2 : List α) (hx : a.eval x = v2) (hsl : SliceOf size C w v2 l2) (h1 : ∀ y ∈ l2, ∀ u ∈ C y, u.oneCell' = true)
    (hbytes : (l.length + l2.length) * bytes ≤ 140737488355328) (hb0 : 0 < bytes) (hbase : base ≤ w.heap.size)
    (h : ∀ v' w', Owns base e size C w' v' (l ++ l2) → w.grownBy w' v.ownBlock → (v'.ownBlock = v.ownBlock ∨ v'.ownBlock = some w.heap.size) → K (a.put o.dst v') w') : o.wp P a w K Q := by
 have hlen63 : l.length + l2.length ≤ maxLen := by
  have : l.length + l2.length ≤ (l.length + l2.length) * bytes := Nat.le_mul_of_pos_right _ hb0
  unfold maxLen; omega
 obtain ⟨i, hi, hz, hsize, hby⟩ := info_parts hinfo
 obtain ⟨ao, cap, rfl, hcap, hm, hn, hc⟩ := hsl
 cases ao with
 | none =>
  have h0 : cap = 0 := hn rfl
  subst h0
  obtain rfl := List.eq_nil_of_length_eq_zero (Nat.le_zero.1 hcap)
  have hrun := run_append_owned_none (P := P) (w := w) base t o.type e i size ht hi v l.length (l.flatMap C) hown
  unfold Oper.wp
  simp [execOp, ho, resolve, invoke, builtin, hs, hx, hrun, Result.andThen]
  exact h v w (by simpa using hown) (World.grownBy.refl _ _) (.inl rfl)
 | some ad =>
  have hnews : ∀ j u, (l2.flatMap C)[j]? = some u → w.cell? (ad.add j) = some u := by
   intro j u hu
   obtain ⟨y, hy, hyu⟩ := flat_split hC hsz hu
   obtain ⟨b, o', ha, _, hcell⟩ := hc _ _ hy
   cases ha
   rw [Addr.add_lit]
   have := hcell _ _ hyu
   rwa [Nat.add_assoc, Nat.div_add_mod' j size] at this
  obtain ⟨v', w', hr, h2, h3, h4, hloc⟩ := run_append_own_at (P := P) w base t o.type e i z size bytes ht hi hz hsize hby hzs hsz v l.length (l.flatMap C) hown ad l2.length cap (l2.flatMap C) (by rw [flat_len hC]) hnews
   (by intro u hu; obtain ⟨y, hy, huy⟩ := List.mem_flatMap.1 hu; exact h1 y hy u huy) hlen63 hbytes hbase
  unfold Oper.wp execOp
  simp only [ho, resolve, invoke, builtin, Sem.run_bind, Sem.run_pure, Result.andThen_ok, List.map_toArray, List.map_cons, List.map_nil, hs, hx, hr]
  exact h v' w' (by unfold Owns; rw [List.length_append, List.flatMap_append]; exact h2) h3 hloc
theorem step_append_slice {α : Type} {P : Program} {ops : Array Oper} {E : Prop} (w : World) {o : Oper} {a : Act} {K : Act → World → Prop} {Q : Exit → Act → World → Prop} (hgd : o.guard = none) (s x : Operand) (t : TypeId)
    (ho : o.op = .call { callee := .builtin .append, args := #[s, x], argTypes := #[t, t] })
    (base : Nat) (e : TypeId) {z : Value} {size bytes : Nat} (ht : P.underlying t = some (.slice e)) (hinfo : (P.info? e).map (fun i => (i.zero, i.size, i.bytes)) = some (some z, size, bytes)) (hzs : z.cells.size = size) (hsz : 0 < size) {C : α → List Value} (hC : ∀ y, (C y).length = size)
    (v : Value) (l : List α) (hs : a.eval s = v) (hown : Owns base e size C w v l) (v2 : Value) (l2 : List α) (hx : a.eval x = v2) (hsl : SliceOf size C w v2 l2) (h1 : ∀ y ∈ l2, ∀ u ∈ C y, u.oneCell' = true)
    (hbytes : (l.length + l2.length) * bytes ≤ 140737488355328) (hb0 : 0 < bytes) (hbase : base ≤ w.heap.size)
    (h : ∀ ao n cap w', Owns base e size C w' (.slice ao n cap) (l ++ l2) → w.grownBy w' v.ownBlock → K (a.put o.dst (.slice ao n cap)) w') :
    if Region.wanted o (yielded ops a.tmps) = true then Oper.wp P o a w K Q else E := by
 have hw : Region.wanted o (yielded ops a.tmps) = true := by simp [Region.wanted, hgd]
 rw [if_pos hw]
 refine wp_append_slice w s x t ho base e ht hinfo hzs hsz hC v l hs hown v2 l2 hx hsl h1 hbytes hb0 hbase fun v' w' h2 h3 _ => ?_
 obtain ⟨ao, cap, rfl⟩ := h2.shape
 exact h ao _ cap w' h2 h3

end Go.Proofs.YtphaeegbmfpcgaaGreatDoor

/- The walk of a list of pom's reader; the conditions stand in the theorem. -/
namespace Go.Proofs.YtphaeegbmfpcgaaGreatDoor
open Go Go.RowKit

abbrev ElV := TrV × Bs
def elC (x : ElV) : List Value := [.string (bs x.1.1.name), x.1.2.1, x.1.2.2, .string (bs x.1.1.text), .string (bs x.2)]
theorem elC_len (x : ElV) : (elC x).length = 5 := rfl
theorem info_el : (Tryz.prog.info? 163).map (fun i => (i.zero, i.size, i.bytes)) = some (some (.agg #[.string ⟨#[]⟩, .slice none 0 0, .slice none 0 0, .string ⟨#[]⟩, .string ⟨#[]⟩]), 5, 96) := by kernel_rfl
/-- The elements of a list and where each is. -/
def elsQ (w : Bs) : List Tr → Nat → List (Tr × Bs)
 | [], _ => []
 | t :: r, i => (t, atI w (i + 1)) :: elsQ w r (i + 1)
theorem elsQ_snoc (w : Bs) : ∀ (l : List Tr) (t : Tr) (i : Nat), elsQ w (l ++ [t]) i = elsQ w l i ++ [(t, atI w (i + l.length + 1))]
 | [], t, i => rfl
 | x :: l, t, i => by
  rw [List.cons_append, elsQ, elsQ, elsQ_snoc w l t (i + 1)]
  simp only [List.cons_append, List.length_cons]
  rw [show i + 1 + l.length + 1 = i + (l.length + 1) + 1 by omega]
def bigE (n : Nat) (w : Bs) : Option Er := if 1024 < n then some (2, w) else none
/-- The post of list: the elements in a row of its own, none in blocks of the caller's from B on. -/
def ListP (X : Nat → Prop) (w : World) (l : List (Tr × Bs)) (e : Ending) (w' : World) : Prop := ∃ v L, e = .returned v ∧ L.map (fun x : ElV => (x.1.1, x.2)) = l ∧ Owns w.heap.size 163 5 elC w' v L ∧ ∀ y ∈ L, NodeX (fun j => X j ∨ w.heap.size ≤ j) w' y.1.1 y.1.2.1 y.1.2.2
theorem elC_one (t : Tr) (a1 a3 : Option Addr) (l1 l3 a2 a4 : Nat) (b : Bs) : ∀ y ∈ [(((t, .slice a1 l1 a2, .slice a3 l3 a4), b) : ElV)], ∀ u ∈ elC y, u.oneCell' = true := by
 intro y hy u hu
 obtain rfl := List.mem_singleton.1 hy
 simp only [elC, List.mem_cons, List.not_mem_nil, or_false] at hu
 rcases hu with rfl | rfl | rfl | rfl | rfl <;> rfl
theorem el_lit (y : ElV) (W : World) (H : Nat) (hH : W.heap.size = H) : SliceOf 5 elC (W.alloc (.cells (elC y).toArray 163)) (.slice (some ⟨H, 0, none⟩) 1 1) [y] := by
 have h := sliceLit elC_len W [y] 163 H 1 hH rfl (by unfold maxLen; simp)
 simpa using h
theorem below_thenQ {B : Nat} {w V w8 : World} {v : Value} (h : Below B w V) (hB : B ≤ w.heap.size) (hg : V.grownBy w8 v.ownBlock) (hX : ∀ g, v.ownBlock = some g → B ≤ g) : Below B w w8 :=
 h.trans ⟨hg.os, hg.tape, hg.output, by have := hg.size; have := h.size; omega, fun k hk => hg.block k (by have := h.size; omega) (fun e => by have := hX k e.symm; omega)⟩
theorem keptQ {X : Nat → Prop} {B : Nat} {w w' : World} (h : Below B w w') (hs : w.heap.size ≤ w'.heap.size) (hX : ∀ k, ¬ X k → k < B) : KeptX X w w' := ⟨hs, fun k j _ hx => h.cell (p := ⟨k, j, none⟩) (hX k hx)⟩
set_option maxRecDepth 100000 in
set_option maxHeartbeats 8000000 in
theorem listQ_any (Z : Nat → Prop) (t : Tr) (wh m : Bs) (w : World) (av kv : Value) (ht : NodeX Z w t av kv) (hkl : t.kids.length ≤ 100000) (hl : wh.length + m.length ≤ 1000000000000) :
    Calls Tryz.prog 133 #[elemV t av kv wh, .string (bs m)] w (Ret (bigE (kidsF m t.kids).length wh) (ListP Z w (elsQ (sl wh m) (kidsF m t.kids) 0)) w) := by
 obtain ⟨ao, ac, ko, kc, rfl, rfl, hal, -⟩ := ht.shape
 obtain ⟨K, hK⟩ : ∃ K, K = kidsF m t.kids := ⟨_, rfl⟩
 obtain ⟨X, hX⟩ : ∃ X : S, X = bs wh := ⟨_, rfl⟩
 obtain ⟨M, hM⟩ : ∃ M : S, M = bs m := ⟨_, rfl⟩
 have HC : Hid (∀ W, Below w.heap.size w W → Calls Tryz.prog 129 #[.agg #[.string (bs t.name), .slice ao t.attrs.length ac, .slice ko t.kids.length kc, .string (bs t.text)], .string M] W fun e w' => ∃ v L, e = .returned v ∧ L.map (·.1) = K ∧ CollX (fun j => Z j ∨ w.heap.size ≤ j) W.heap.size W w' v L) := fun W h => by rw [hM, hK]; exact kids_x t m W _ _ (ht.freshX.later h) hkl
 have HW : Hid (∀ P : Bs, X ++ ⟨#[47]⟩ ++ M ++ ⟨#[91]⟩ ++ bs P ++ ⟨#[93]⟩ = bs (sl wh m ++ 91 :: (P ++ [93]))) := fun P => by
  rw [hX, hM]; show bs wh ++ bs [47] ++ bs m ++ bs [91] ++ bs P ++ bs [93] = _
  simp only [bs_append]; unfold sl; simp
 have hKL : K.length ≤ 100000 := by rw [hK]; exact Nat.le_trans (List.length_filter_le _ _) hkl
 have HXW : Hid ((bs wh : S) = X) := hX.symm
 have hzX : X.size = wh.length := by rw [hX, bs_size]
 have hzM : M.size = m.length := by rw [hM, bs_size]
 have HZ : Hid (X.size + M.size ≤ 1000000000000) := by show _ ≤ _; omega
 have HRB : Hid (1024 < K.length → bigE K.length wh = some (2, wh)) := fun h => if_pos h
 have HRG : Hid (¬ 1024 < K.length → bigE K.length wh = none) := fun h => if_neg h
 unfold elemV
 rw [← hK, ← hX, ← hM]
 generalize bigE K.length wh = r at *
 clear ht hX hM hzX hzM hK
 go_enter Tryz.func133, Tryz.ntmps133
 go_upto_region 1 with fail
 refine wp_world ?_
 intro W hW
 have x1 : Box W w.heap.size [.string (bs t.name), .slice ao t.attrs.length ac, .slice ko t.kids.length kc, .string (bs t.text), .string X] := by rw [hW]; exact Box.new w [.string (bs t.name), .slice ao t.attrs.length ac, .slice ko t.kids.length kc, .string (bs t.text), .string X] _ _ rfl
 have hb : Below w.heap.size w W := by rw [hW]; exact (Below.refl _ w).alloc (Nat.le_refl _) _
 clear hW
 have HX1 := Lib.hid x1
 have HB := Lib.hid hb
 clear x1 hb
 obtain ⟨a0, a1, a2, a3, a4⟩ := bxc5 HX1.out
 have al := HX1.out.lt
 go_wp2_with fail
 refine (HC.out _ HB.out).mono ?_
 rintro e w1 ⟨v, L, rfl, hL, hco⟩
 obtain ⟨la, lc, rfl⟩ := hco.own.shape
 have hb1 := hco.below
 have HB1 := Lib.hid (HB.out.trans (hb1.mono HB.out.size))
 have HY1 := Lib.hid (HX1.out.below hb1 HX1.out.lt)
 have HCO := Lib.hid (collQ hco (Below.refl _ _))
 have hLK : L.length = K.length := by rw [← hL]; simp
 rw [hLK] at HCO ⊢
 have HLM := Lib.hid hL
 have HLK := Lib.hid hLK
 clear a0 a1 a2 a3 a4 al hb1 hco HC HX1 hL hLK
 obtain ⟨a0, a1, a2, a3, a4⟩ := bxc5 HY1.out
 have al := HY1.out.lt
 by_cases hbig : 1024 < K.length
 · have hbI : (1024 : Int) < (K.length : Int) := by omega
   have HR : Hid (r = some (2, wh)) := HRB.out hbig
   clear hbig HRB HRG
   go_wp2_with fail
   refine (failQ_any _ _ _).mono ?_
   rintro e w3 ⟨rfl, rfl⟩
   go_wp2
   refine ⟨rfl, Ret.bad HR.out HB1.out ?_⟩
   unfold panE faultQ
   rw [HXW.out]
 · have hbI : ¬ (1024 : Int) < (K.length : Int) := by omega
   have HR : Hid (r = none) := HRG.out hbig
   clear HRB HRG
   have HKS : Hid (K.length ≤ 1024) := by show _ ≤ _; omega
   clear hbig
   go_wp2
   clear a0 a1 a2 a3 a4 al
   go_loopw [4, 20] (fun v i wr => ∃ (k : Nat) (O : List ElV) (oa : Option Addr) (oc : Nat), k ≤ K.length ∧ i = .int .i64 k ∧ v = .slice oa k oc ∧ Hid (Below w1.heap.size w1 wr ∧ Owns w1.heap.size 163 5 elC wr (.slice oa k oc) O ∧ O.map (fun x : ElV => (x.1.1, x.2)) = elsQ (sl wh m) (K.take k) 0 ∧ O.length = k ∧ ∀ y ∈ O, NodeX (fun j => Z j ∨ w.heap.size ≤ j) wr y.1.1 y.1.2.1 y.1.2.2)) (fun _ i _ => K.length - (intOf i).toNat)
   case atStart => exact ⟨0, [], none, 0, Nat.zero_le _, rfl, rfl, Below.refl _ _, Owns.nil, rfl, rfl, by simp⟩
   case round =>
    obtain ⟨k, O, oa, oc, hk, rfl, rfl, HRR⟩ := hrel
    by_cases hlt : k < K.length
    · have hb1r := HRR.out.1
      have hs1 := hb1r.size
      have HCW := Lib.hid (And.intro (HCO.out.1.below hb1r) (fun y hy => (HCO.out.2 y hy).later hb1r))
      rw [← HLK.out] at HCW
      obtain ⟨g, o1, p1, p2, p3, p4, hla, hg, c0, c1, c2, c3, hn⟩ := nodesQ HCW.out.1 HCW.out.2 k (by rw [HLK.out]; exact hlt)
      subst hla
      have HZ1 := Lib.hid (HY1.out.below hb1r HY1.out.lt)
      have hki : (k : Int) < (K.length : Int) := by omega
      have hkL : k < L.length := by rw [HLK.out]; exact hlt
      have hyk : K[k] = L[k].1 := by simp only [← HLM.out, List.getElem_map]
      have HTK := Lib.hid (by rw [List.take_succ_eq_append_getElem hlt, hyk] : K.take (k + 1) = K.take k ++ [L[k].1])
      have HNN := Lib.hid hn
      clear hn hyk
      generalize L[k] = y at *
      obtain ⟨t1, ya, yk⟩ := y
      simp only at c0 c1 c2 c3 HNN HTK
      obtain ⟨N, hN⟩ : ∃ N : S, N = bs (numP (k + 1)) := ⟨_, rfl⟩
      have hNz : N.size ≤ 1027 := by rw [hN, bs_size]; have h1 := numP_len (k + 1); have h2 := HKS.out; omega
      have HNU : Hid (∀ W, Calls Tryz.prog 169 #[.int .i64 ((k : Int) + 1)] W fun e w' => e = .returned (.string N) ∧ W = w') := fun W => by rw [hN]; exact numberQ_any (k + 1) W (by omega) (by have := HKS.out; omega)
      have HPA : Hid (X ++ ⟨#[47]⟩ ++ M ++ ⟨#[91]⟩ ++ N ++ ⟨#[93]⟩ = bs (atI (sl wh m) (k + 1))) := by rw [hN]; exact HW.out _
      have hz := HZ.out
      have hs1' : ¬ 9223372036854775807 < X.size + 1 := by omega
      have hs2' : ¬ 9223372036854775807 < X.size + 1 + M.size := by omega
      have hs3' : ¬ 9223372036854775807 < X.size + 1 + M.size + 1 := by omega
      have hs4' : ¬ 9223372036854775807 < X.size + 1 + M.size + 1 + N.size := by omega
      have hs5' : ¬ 9223372036854775807 < X.size + 1 + M.size + 1 + N.size + 1 := by omega
      have hw1 : IntKind.i64.wrap ((k : Int) + 1) = (k : Int) + 1 := IntWalk.i64_in _ (by have := HKS.out; omega)
      clear hN hNz hz
      have HOR := Lib.hid HRR.out.2.1
      have HR1 := Lib.hid hb1r
      clear hb1r
      go_upto_region 7 with fail
      refine wp_world ?_
      intro W7 hW7
      have x7 : Box W7 wr.heap.size [.string (bs t1.name), .slice p1 t1.attrs.length p2, .slice p3 t1.kids.length p4, .string (bs t1.text)] := by rw [hW7]; exact Box.new wr [.string (bs t1.name), .slice p1 t1.attrs.length p2, .slice p3 t1.kids.length p4, .string (bs t1.text)] _ _ rfl
      have hb7 : Below wr.heap.size wr W7 := by rw [hW7]; exact (Below.refl _ wr).alloc (Nat.le_refl _) _
      clear hW7
      have HX7 := Lib.hid x7
      have HB7 := Lib.hid hb7
      have HZ7 := Lib.hid (HZ1.out.below hb7 HZ1.out.lt)
      have HO7 := Lib.hid (HOR.out.below hb7)
      clear x7 hb7 c0 c1 c2 c3
      obtain ⟨c0, c1, c2, c3⟩ := bxc4 HX7.out
      have cl := HX7.out.lt
      have d4 := HZ7.out.cell 4 _ rfl
      have dl := HZ7.out.lt
      have HOA : Hid (∀ (o : Obj), Owns w1.heap.size 163 5 elC (W7.drew.alloc o) (.slice oa k oc) O) := fun o => Owns.alloc (w := W7.drew) (show Owns w1.heap.size 163 5 elC W7 (.slice oa k oc) O from HO7.out) o
      have HXA : Hid (∀ (o : Obj), Box (W7.drew.alloc o) wr.heap.size [.string (bs t1.name), .slice p1 t1.attrs.length p2, .slice p3 t1.kids.length p4, .string (bs t1.text)]) := fun o => Box.alloc (w := W7.drew) ⟨HX7.out.lt, HX7.out.cell, HX7.out.free⟩ o
      have HYA : Hid (∀ (o : Obj), Box (W7.drew.alloc o) w.heap.size [.string (bs t.name), .slice ao t.attrs.length ac, .slice ko t.kids.length kc, .string (bs t.text), .string X]) := fun o => Box.alloc (w := W7.drew) ⟨HZ7.out.lt, HZ7.out.cell, HZ7.out.free⟩ o
      have HSL : Hid (∀ V : World, SliceOf 5 elC (V.alloc (.cells #[.string (bs t1.name), .slice p1 t1.attrs.length p2, .slice p3 t1.kids.length p4, .string (bs t1.text), .string (X ++ ⟨#[47]⟩ ++ M ++ ⟨#[91]⟩ ++ N ++ ⟨#[93]⟩)] 163)) (.slice (some ⟨V.heap.size, 0, none⟩) 1 1) [(((t1, .slice p1 t1.attrs.length p2, .slice p3 t1.kids.length p4), atI (sl wh m) (k + 1)) : ElV)]) := fun V => by rw [HPA.out]; exact el_lit ((t1, .slice p1 t1.attrs.length p2, .slice p3 t1.kids.length p4), atI (sl wh m) (k + 1)) V _ rfl
      have HBY : Hid ((O.length + [(((t1, .slice p1 t1.attrs.length p2, .slice p3 t1.kids.length p4), atI (sl wh m) (k + 1)) : ElV)].length) * 96 ≤ 140737488355328) := by show _ ≤ _; have := HRR.out.2.2.2.1; have := HKS.out; simp only [List.length_cons, List.length_nil]; omega
      have HBS : Hid (∀ o : Obj, w1.heap.size ≤ (W7.drew.alloc o).heap.size) := fun o => by have h1 := HB7.out.size; have h2 := hs1; show _ ≤ (W7.heap.push o).size; simp only [Array.size_push]; omega
      have HNE : Hid (some wr.heap.size ≠ (Value.slice oa k oc).ownBlock ∧ some w.heap.size ≠ (Value.slice oa k oc).ownBlock) := ⟨fun h => by have := (HOR.out.lt _ h.symm).2; omega, fun h => by have := (HOR.out.lt _ h.symm).1; have := HY1.out.lt; omega⟩
      have HBA : Hid (∀ (o : Obj), Below w1.heap.size wr (W7.drew.alloc o)) := fun o => ((HB7.out.mono hs1).trans (belowN (Below.refl _ _) 1)).alloc (by have := HB7.out.size; show _ ≤ W7.heap.size; omega) o
      have HNB : Hid (∀ g, (Value.slice oa k oc).ownBlock = some g → w1.heap.size ≤ g) := fun g h => (HOR.out.lt _ h).1
      go_region_held3 (fun w' => w'.cell? ⟨wr.heap.size, 0, none⟩ = some (.string (bs t1.name)) ∧ w'.cell? ⟨wr.heap.size, 1, none⟩ = some (.slice p1 t1.attrs.length p2) ∧ w'.cell? ⟨wr.heap.size, 2, none⟩ = some (.slice p3 t1.kids.length p4) ∧ w'.cell? ⟨wr.heap.size, 3, none⟩ = some (.string (bs t1.text)) ∧ w'.cell? ⟨w.heap.size, 4, none⟩ = some (.string X)) (first | exact ⟨c0, c1, c2, c3, d4⟩ | exact ⟨hX8.out.cell 0 _ rfl, hX8.out.cell 1 _ rfl, hX8.out.cell 2 _ rfl, hX8.out.cell 3 _ rfl, hY8.out.cell 4 _ rfl⟩ | (go_keep; done)) (first | (go_at_call 169; refine (HNU.out _).mono ?_; rintro e w9 ⟨rfl, rfl⟩) | (refine step_append_slice _ rfl (.tmp 25) (.tmp 39) 217 rfl w1.heap.size 163 Tryz.underlying217 info_el rfl (by decide) elC_len (.slice oa k oc) O (by simp [Act.eval]) (HOA.out _) _ [(((t1, .slice p1 t1.attrs.length p2, .slice p3 t1.kids.length p4), atI (sl wh m) (k + 1)) : ElV)] (by simp [Act.eval]) (HSL.out _) (elC_one _ _ _ _ _ _ _ _) HBY.out (by decide) (HBS.out _) ?_; intro a8 n8 c8 w8 hown8 hgrow8; have hx8 := (HXA.out _).grown hgrow8 HNE.out.1; have hy8 := (HYA.out _).grown hgrow8 HNE.out.2; have hB8 := Lib.hid (below_thenQ (HBA.out _) hs1 hgrow8 HNB.out); have hO8 := Lib.hid hown8; have hG8 := Lib.hid hgrow8.size; have hX8 := Lib.hid hx8; have hY8 := Lib.hid hy8; clear hown8 hgrow8 hx8 hy8))
      obtain ⟨_, _, he8⟩ := hO8.out.shape
      simp only [Value.slice.injEq, List.length_append, List.length_cons, List.length_nil, HRR.out.2.2.2.1, Nat.zero_add] at he8
      obtain ⟨-, he8, -⟩ := he8
      subst he8
      go_wp2
      go_roundw
      case rel =>
       have h1 := HRR.out
       have hW1 : w.heap.size ≤ w1.heap.size := HB1.out.size
       have hk8 : KeptX (fun j => Z j ∨ w.heap.size ≤ j) wr w8 := keptQ hB8.out hB8.out.size (fun k hk => by have h2 : ¬ w.heap.size ≤ k := fun h => hk (.inr h); omega)
       refine ⟨k + 1, O ++ [(((t1, .slice p1 t1.attrs.length p2, .slice p3 t1.kids.length p4), atI (sl wh m) (k + 1)) : ElV)], a8, c8, hlt, by go_num, rfl, h1.1.trans hB8.out, hO8.out, ?_, by simp [h1.2.2.2.1], ?_⟩
       · rw [List.map_append, h1.2.2.1, HTK.out, elsQ_snoc]
         have hl2 : (K.take k).length = k := by rw [List.length_take]; omega
         rw [hl2, Nat.zero_add]
         rfl
       · intro y hy
         rcases List.mem_append.1 hy with hy | hy
         · exact (h1.2.2.2.2 y hy).keep hk8 (fun _ _ h => h)
         · obtain rfl := List.mem_singleton.1 hy
           exact (HNN.out.keep (keptQ hB8.out hB8.out.size (fun k hk => by have h2 : ¬ w.heap.size ≤ k := fun h => hk (.inl (.inr h)); omega)) (fun _ _ h => .inl h))
      case measure => simp [intOf]; omega
    · obtain rfl : k = K.length := by omega
      go_wp2
      go_ret
      have h1 := HRR.out
      refine Ret.good HR.out (HB1.out.trans (h1.1.mono HB1.out.size)) ⟨_, O, rfl, by rw [h1.2.2.1, List.take_length], h1.2.1.base_mono HB1.out.size, h1.2.2.2.2⟩

end Go.Proofs.YtphaeegbmfpcgaaGreatDoor

/- Walks: is a property's name among those read; the conditions stand in the theorems. -/
namespace Go.Proofs.YtphaeegbmfpcgaaGreatDoor
open Go Go.RowKit

theorem SliceOf.prpAt {w : World} {ao : Option Addr} {len cap : Nat} {l : List Prp} (h : SliceOf 2 prpC w (.slice ao len cap) l) {k : Nat} (hk : k < l.length) :
    ∃ g o, ao = some ⟨g, o, none⟩ ∧ g < w.heap.size ∧ w.cell? ⟨g, o + k * 2, none⟩ = some (.string l[k].name) ∧ w.cell? ⟨g, o + k * 2 + 1, none⟩ = some (.string l[k].value) := by
 obtain ⟨g, o, e, hg, hc⟩ := h.at hk
 exact ⟨g, o, e, hg, by simpa using hc 0 _ rfl, hc 1 _ rfl⟩
theorem prpHit_any (p : Prp) (n : S) (q : Bool) (hq : (p.name.toList == n.toList) = q) (B : Nat) (w : World) (hB : B < w.heap.size) (h0 : w.cell? ⟨B, 0, none⟩ = some (.string n)) :
    Calls Tryz.prog 132 #[.agg #[.string p.name, .string p.value], .pointer (some ⟨B, 0, none⟩)] w fun e w' => e = .returned (.bool q) ∧ Below w.heap.size w w' := by
 have HB : Hid (∀ o, Below w.heap.size w (w.alloc o)) := fun o => (Below.refl _ w).alloc (Nat.le_refl _) _
 go_enter Tryz.func132, Tryz.ntmps132
 go_wp2
 go_ret
 exact ⟨rfl, HB.out _⟩
/-- Is there one of that name? -/
def hasN (l : List Prp) (n : S) : Bool := l.any fun p => p.name.toList == n.toList
theorem hasN_take {l : List Prp} {n : S} {k : Nat} (h : k < l.length) : hasN (l.take (k + 1)) n = (hasN (l.take k) n || (l[k].name.toList == n.toList)) := by
 unfold hasN
 rw [List.take_succ_eq_append_getElem h, List.any_append]
 simp
theorem hasN_mem {l : List Prp} {n : S} {k : Nat} (h : k < l.length) (he : (l[k].name.toList == n.toList) = true) : hasN l n = true := List.any_eq_true.2 ⟨l[k], List.getElem_mem h, he⟩
set_option maxRecDepth 100000 in
set_option maxHeartbeats 4000000 in
theorem indexP_any (l : List Prp) (n : S) (v : Value) (B : Nat) (w : World) (hv : SliceOf 2 prpC w v l) (hB : w.cell? ⟨B, 0, none⟩ = some (.string n)) (hlt : B < w.heap.size) :
    Calls Tryz.prog 168 #[v, .func (.func 132) #[] #[.pointer (some ⟨B, 0, none⟩)]] w fun e w' => ∃ r : Int, e = .returned (.int .i64 r) ∧ ((r = -1 ∧ hasN l n = false) ∨ (0 ≤ r ∧ hasN l n = true)) ∧ Below w.heap.size w w' := by
 have hlm : l.length ≤ 9223372036854775807 := by obtain ⟨a, c, e, h2, h3, -⟩ := hv; exact Nat.le_trans h2 (Nat.le_trans h3 (by decide))
 obtain ⟨ao, ac, rfl⟩ := hv.shape
 have HV := Lib.hid hv
 have HBK := Lib.hid hB
 have HLT := Lib.hid hlt
 clear hv hB hlt
 go_enter Tryz.func168, Tryz.ntmps168
 go_wp2_with fail
 go_loopw [8] (fun iv wr => ∃ i : Nat, i ≤ l.length ∧ iv = .int .i64 i ∧ Hid (hasN (l.take i) n = false) ∧ Below w.heap.size w wr) (fun iv _ => l.length - (intOf iv).toNat)
 case atStart => exact ⟨0, Nat.zero_le _, rfl, rfl, Below.refl _ _⟩
 case round =>
  obtain ⟨i, hi, rfl, hn, hb⟩ := hrel
  have HBR := Lib.hid hb
  have hsr := hb.size
  by_cases hlt : i < l.length
  · have hltI : (i : Int) < (l.length : Int) := by omega
    obtain ⟨g, o, rfl, hg, c0, c1⟩ := (HV.out.below hb).prpAt hlt
    have HN := Lib.hid (hasN_take (n := n) hlt)
    have HM := Lib.hid (hasN_mem (n := n) hlt)
    obtain ⟨q, hq⟩ : ∃ q, q = (l[i].name.toList == n.toList) := ⟨_, rfl⟩
    have HCC := Lib.hid (prpHit_any l[i] n q hq.symm B wr (Nat.lt_of_lt_of_le HLT.out hsr) ((hb.cell (p := ⟨B, 0, none⟩) HLT.out).trans HBK.out))
    rw [← hq] at HN HM
    clear hb hq
    cases q with
    | true =>
     have HT : Hid (hasN l n = true) := HM.out (by trivial)
     clear HN HM hn
     go_wp2_with fail
     refine HCC.out.mono ?_
     rintro e w2 ⟨rfl, hb2⟩
     have HB2 := Lib.hid (HBR.out.trans (hb2.mono hsr))
     clear hb2 c0 c1
     go_wp2
     go_ret
     exact ⟨_, rfl, .inr ⟨by omega, HT.out⟩, HB2.out⟩
    | false =>
     have HF : Hid (hasN (l.take (i + 1)) n = false) := by show _ = _; rw [HN.out, hn.out]; rfl
     clear HN HM hn
     go_wp2_with fail
     refine HCC.out.mono ?_
     rintro e w2 ⟨rfl, hb2⟩
     have HB2 := Lib.hid (HBR.out.trans (hb2.mono hsr))
     clear hb2 c0 c1
     go_wp2
     go_roundw
     case rel => exact ⟨i + 1, hlt, by go_num, HF.out, HB2.out⟩
     case measure => simp [intOf]; omega
  · obtain rfl : i = l.length := by omega
    have HR : Hid (hasN l n = false) := by have := hn.out; rwa [List.take_length] at this
    clear hlt hb hn
    go_wp2
    go_ret
    exact ⟨_, rfl, .inl ⟨rfl, HR.out⟩, HBR.out⟩
set_option maxHeartbeats 1000000 in
theorem containsP_any (l : List Prp) (n : S) (v : Value) (B : Nat) (w : World) (hv : SliceOf 2 prpC w v l) (hB : w.cell? ⟨B, 0, none⟩ = some (.string n)) (hlt : B < w.heap.size) :
    Calls Tryz.prog 131 #[v, .func (.func 132) #[] #[.pointer (some ⟨B, 0, none⟩)]] w fun e w' => e = .returned (.bool (hasN l n)) ∧ Below w.heap.size w w' := by
 have HI := Lib.hid (indexP_any l n v B w hv hB hlt)
 generalize hasN l n = q at *
 obtain ⟨ao, ac, rfl⟩ := hv.shape
 clear hv hB hlt
 go_enter Tryz.func131, Tryz.ntmps131
 go_wp2_with fail
 refine HI.out.mono ?_
 rintro e w2 ⟨r, rfl, hr, hb2⟩
 have HB2 := Lib.hid hb2
 clear hb2 HI
 rcases hr with ⟨rfl, hh⟩ | ⟨h0, hh⟩
 · subst hh
   go_wp2
   go_ret
   exact ⟨rfl, HB2.out⟩
 · subst hh
   go_wp2
   go_ret
   exact ⟨rfl, HB2.out⟩

end Go.Proofs.YtphaeegbmfpcgaaGreatDoor

/- A region that draws its order, by an invariant on what has come up: the count of what is left, and that something may come up, in general; no program in sight. -/

namespace Go.Proofs.YtphaeegbmfpcgaaGreatDoor
open Go Go.RowKit

/-- Each operation waits only for ones ahead of it in the text. -/
def backB (ops : Array Oper) : Bool := (List.range ops.size).all fun j => ((ops[j]?).map fun o => o.after.all fun e => !Region.binds .any e || decide (e.on < j)).getD true
theorem ready_ne {ops : Array Oper} {listed : Array Bool} (hb : backB ops = true) (hs : listed.size = ops.size) : ∀ (j : Nat), listed[j]? = some false → Region.ready .any ops listed ≠ [] := by
 intro j
 induction j using Nat.strongRecOn with
 | ind j ih =>
  intro hj e
  have hlt : j < listed.size := (Array.getElem?_eq_some_iff.1 hj).1
  have hlo : j < ops.size := by omega
  by_cases hx : ∃ i, i < j ∧ listed[i]? = some false
  · obtain ⟨i, hi, h⟩ := hx
    exact ih i hi h e
  · have hm : j ∈ Region.ready .any ops listed := by
     unfold Region.ready
     rw [List.mem_filter, List.mem_range]
     refine ⟨hlo, ?_⟩
     have h0 : listed.getD j true = false := by simp [Array.getD_eq_getD_getElem?, hj]
     rw [h0, Array.getElem?_eq_getElem hlo]
     simp only [Bool.not_false, Bool.true_and, Option.map_some, Option.getD_some]
     rw [Array.all_eq_true_iff_forall_mem]
     intro ed hed
     unfold backB at hb
     rw [List.all_eq_true] at hb
     have h1 := hb j (List.mem_range.2 hlo)
     rw [Array.getElem?_eq_getElem hlo] at h1
     simp only [Option.map_some, Option.getD_some] at h1
     rw [Array.all_eq_true_iff_forall_mem] at h1
     have h2 := h1 ed hed
     rw [Bool.or_eq_true] at h2 ⊢
     rcases h2 with h2 | h2
     · exact .inl h2
     · right
       have h3 : ed.on < j := of_decide_eq_true h2
       have h4 : ed.on < listed.size := by omega
       have h5 : listed[ed.on]? ≠ some false := fun h => hx ⟨_, h3, h⟩
       rw [Array.getElem?_eq_getElem h4] at h5
       rw [Array.getD_eq_getD_getElem?, Array.getElem?_eq_getElem h4]
       simpa using h5
    rw [e] at hm
    cases hm
theorem ready_nil {ops : Array Oper} {listed : Array Bool} (hs : listed.size = ops.size) (h : listed.toList.count false = 0) : Region.ready .any ops listed = [] := by
 unfold Region.ready
 rw [List.filter_eq_nil_iff]
 intro i hi
 have hlt : i < listed.size := by have := List.mem_range.1 hi; omega
 rw [List.count_eq_zero] at h
 have h1 : listed[i] ≠ false := fun e => h (by rw [← e]; simp)
 have h2 : listed.getD i true = true := by
  rw [Array.getD_eq_getD_getElem?, Array.getElem?_eq_getElem hlt]
  simpa using h1
 simp [h2]
theorem count_set : ∀ (l : List Bool) (i : Nat), l[i]? = some false → (l.set i true).count false + 1 = l.count false
 | [], i, h => by simp at h
 | b :: l, 0, h => by
  simp at h
  subst h
  simp
 | b :: l, i + 1, h => by
  have h1 := count_set l i (by simpa using h)
  rw [List.set_cons_succ, List.count_cons, List.count_cons]
  omega
/-- The region, by an invariant that speaks of the frame at its head, of what has come up, of the frame and of the world. -/
theorem wp_region_flags {P : Program} {ops : Array Oper} {Q : Exit → Act → World → Prop} {id : Nat} {a : Act} {w : World} (J : Act → Array Bool → Act → World → Prop) (hm : P.follows .mixedOrders = true) (k : Nat) (hk : ops.size = k) (hb : backB ops = true)
    (hi : J a (Array.replicate k false) a w.drew)
    (h0 : ∀ a' w', J a (Array.replicate k true) a' w' → Q .normal a' w')
    (hs : ∀ listed a' w', J a listed a' w' → ∀ i ∈ Region.ready .any ops listed, wpOp P ops Q i (fun a'' w'' => J a (listed.setIfInBounds i true) a'' w'') a' w') :
    (Code.region id ops true).wp P Q a w := by
 refine wp_region_inv (fun n listed a' w' => listed.size = k ∧ listed.toList.count false = n ∧ J a listed a' w') hm k hk ⟨by simp, by simp, hi⟩ ?_ ?_ ?_
 · rintro listed a' w' ⟨h1, h2, h3⟩
   refine ⟨ready_nil (by omega) h2, h0 a' w' ?_⟩
   have : listed = Array.replicate k true := by
    apply Array.ext
    · simp [h1]
    · intro i hi hi'
      rw [List.count_eq_zero] at h2
      have h4 : listed[i] ≠ false := fun e => h2 (by rw [← e]; simp)
      simpa using h4
   rw [← this]; exact h3
 · rintro n listed a' w' ⟨h1, h2, h3⟩
   have hmem : false ∈ listed.toList := by
    rw [← List.count_pos_iff]; omega
   obtain ⟨j, hj, e⟩ := List.mem_iff_getElem.1 hmem
   exact ready_ne hb (by omega) j (by rw [Array.getElem?_eq_getElem (by simpa using hj)]; simpa using e)
 · rintro n listed a' w' ⟨h1, h2, h3⟩ i hi
   have hu := (mem_ready.1 hi).1
   refine wpOp_mono (fun a'' w'' h4 => ⟨by simpa using h1, ?_, h4⟩) (hs listed a' w' h3 i hi)
   have h5 : listed.toList[i]? = some false := by
    rw [Array.getElem?_toList]
    rw [Array.getD_eq_getD_getElem?] at hu
    cases h : listed[i]? with
    | none => rw [h] at hu; simp at hu
    | some b => rw [h] at hu; simpa using hu
   have h6 := count_set _ _ h5
   rw [Array.toList_setIfInBounds]
   omega
theorem wp_region_flags0 {P : Program} {ops : Array Oper} {Q : Exit → Act → World → Prop} {id : Nat} {a : Act} {w : World} (J : Array Bool → Act → World → Prop) (hm : P.follows .mixedOrders = true) (k : Nat) (hk : ops.size = k) (hb : backB ops = true)
    (hi : J (Array.replicate k false) a w.drew)
    (h0 : ∀ a' w', J (Array.replicate k true) a' w' → Q .normal a' w')
    (hs : ∀ listed a' w', J listed a' w' → ∀ i ∈ Region.ready .any ops listed, wpOp P ops Q i (fun a'' w'' => J (listed.setIfInBounds i true) a'' w'') a' w') :
    (Code.region id ops true).wp P Q a w := wp_region_flags (fun _ => J) hm k hk hb hi h0 hs
/-- One operation that has come up: it is carried out, or its guard keeps it out. -/
theorem wpOp_do {P : Program} {ops : Array Oper} {Q : Exit → Act → World → Prop} {i : Nat} {K : Act → World → Prop} {a : Act} {w : World} {o : Oper} (ho : ops[i]? = some o) (hw : Region.wanted o (yielded ops a.tmps) = true) (h : o.wp P a w K Q) : wpOp P ops Q i K a w := by
 unfold wpOp
 rw [ho]
 simp only [hw, if_true]
 exact .inl h

end Go.Proofs.YtphaeegbmfpcgaaGreatDoor
