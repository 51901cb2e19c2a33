/- The walk of a field's word in pom's reader, at any test of it; the conditions stand in the theorem. -/
import Derived.Test.YtbbbfjcikhpmbaaGreatJE12
import Derived.Laws.EntriesVeiled
import Derived.Test.YtbbbfjcikhpmbaaGreatJE11
import Derived.Test.YtbbbfjcikhpmbaaGreatJE08
import Derived.Test.YtbbbfjcikhpmbaaGreatProg
import Derived.Test.YtbbbfjcikhpmbaaGreatJE01
import Derived.KernelRfl
import Derived.Test.YtbbbfjcikhpmbaaGreatJE05

namespace Go.Proofs.YtbbbfjcikhpmbaaGreat
open Go Go.RowKit

/-- A tree whose lists and texts are not too long. -/
inductive Mild : Tr → Prop where
 | of {t : Tr} (hk : t.kids.length ≤ 100000) (hx : (textF t.kids).length ≤ 1000000000) (hn : t.name.length ≤ 1000000000) (h : ∀ k ∈ t.kids, Mild k) : Mild t
theorem Mild.kl {t : Tr} (h : Mild t) : t.kids.length ≤ 100000 := by cases h; assumption
theorem Mild.txt {t : Tr} (h : Mild t) : (textF t.kids).length ≤ 1000000000 := by cases h; assumption
theorem Mild.name {t : Tr} (h : Mild t) : t.name.length ≤ 1000000000 := by cases h; assumption
theorem Mild.kids {t : Tr} (h : Mild t) : ∀ k ∈ t.kids, Mild k := by cases h; assumption
theorem kidsF_sub {m : Bs} {l : List Tr} {k : Tr} (h : k ∈ kidsF m l) : k ∈ l := (List.mem_filter.1 h).1
theorem oneV_mem {t : Tr} {m : Bs} {k : Tr} (h : oneV t m = some k) : k ∈ t.kids := kidsF_sub (List.mem_of_mem_head? h)
theorem Mild.one {t : Tr} (h : Mild t) {m : Bs} {k : Tr} (hk : oneV t m = some k) : Mild k := h.kids k (oneV_mem hk)
/-- A function value that tests texts as r does, in every later world. -/
def Tests (w : World) (F : FuncId) (caps : Array Value) (r : Bs → Bool) : Prop :=
 (∀ (args : Array Value) (W : World), (callFunc F args).run Tryz.prog W = .ok (.enter F args) W) ∧ ∀ (s : Bs) (W : World), Below w.heap.size w W → s.length ≤ 1024 → Calls Tryz.prog F (#[.string (bs s)] ++ caps) W fun e w' => e = .returned (.bool (r s)) ∧ Below W.heap.size W w'
theorem textE_none {t : Tr} {w : Bs} {e : Bool} (h : textE t w e = none) : (textV t).length ≤ 1024 := by
 unfold textE textBad at h
 unfold textV
 split at h
 · cases h
 · rename_i hc
   simp only [Bool.or_eq_true, not_or, decide_eq_true_eq] at hc
   omega
set_option maxRecDepth 100000 in
set_option maxHeartbeats 8000000 in
theorem wordQ_any (F : FuncId) (caps : Array Value) (r : Bs → Bool) (t : Tr) (wh m : Bs) (must : Bool) (w : World) (av kv : Value) (ht : NodeOf w t av kv) (hm : Mild t) (hl : wh.length + m.length ≤ 1000000000000) (hT : Tests w F caps r) :
    Calls Tryz.prog 36 #[elemV t av kv wh, .string (bs m), .bool must, .func (.func F) #[] caps] w (Ret (wordE t wh m must r) (fun e _ => e = .returned (.string (bs (wordV t m)))) w) := by
 obtain ⟨ao, ac, ko, kc, rfl, rfl, hal, -⟩ := ht.shape
 have HF : Hid (∀ W, Below w.heap.size w W → Calls Tryz.prog 35 #[elemV t (.slice ao t.attrs.length ac) (.slice ko t.kids.length kc) wh, .string (bs m)] W (Ret (manyE t wh m) (FieldP wh m (oneV t m)) W)) := fun W h => field_any t wh m W _ _ (ht.later h) hm.kl hl
 have HT := Lib.hid hT
 have HM := Lib.hid hm
 have HE : Hid (wordE t wh m must r = (manyE t wh m).or (match oneV t m with
  | none => if must then some (20, sl wh m) else none
  | some k => (textE k (sl wh m) false).or (if r (textV k) then none else some (20, sl wh m)))) := rfl
 have HV : Hid (wordV t m = match oneV t m with
  | none => []
  | some k => textV k) := rfl
 obtain ⟨E, hE⟩ : ∃ E, E = wordE t wh m must r := ⟨_, rfl⟩
 obtain ⟨V, hV⟩ : ∃ V, V = wordV t m := ⟨_, rfl⟩
 rw [← hE] at HE ⊢
 rw [← hV] at HV ⊢
 clear hE hV ht hT hm
 obtain ⟨X, hX⟩ : ∃ X : S, X = bs wh := ⟨_, rfl⟩
 obtain ⟨M, hM⟩ : ∃ M : S, M = bs m := ⟨_, rfl⟩
 obtain ⟨Y, hY⟩ : ∃ Y : S, Y = bs (sl wh m) := ⟨_, rfl⟩
 have HY : Hid ((bs (sl wh m) : S) = Y) := hY.symm
 unfold elemV at HF ⊢
 rw [← hX, ← hM] at HF ⊢
 clear hX hM
 go_enter Tryz.func36, Tryz.ntmps36
 go_upto_region 1 with fail
 refine wp_world ?_
 intro W hW
 have x1 : Box W w.heap.size [.string (bs t.name), .slice ao t.attrs.length ac, .slice ko t.kids.length kc, .string (bs t.text), .string X] := by rw [hW]; exact Box.new w [.string (bs t.name), .slice ao t.attrs.length ac, .slice ko t.kids.length kc, .string (bs t.text), .string X] _ _ rfl
 have hb : Below w.heap.size w W := by rw [hW]; exact (Below.refl _ w).alloc (Nat.le_refl _) _
 clear hW
 have HX1 := Lib.hid x1
 have HB := Lib.hid hb
 clear x1 hb
 obtain ⟨a0, a1, a2, a3, a4⟩ := bxc5 HX1.out
 have al := HX1.out.lt
 go_wp2_with fail
 refine (HF.out _ HB.out).mono ?_
 rintro e w1 ⟨hb1, hp, hq⟩
 have HB1 := Lib.hid (HB.out.trans (hb1.mono HB.out.size))
 clear a0 a1 a2 a3 a4 al HF HX1 hb1
 cases hM : manyE t wh m with
 | some x =>
  obtain rfl := hp x hM
  have HR : Hid (E = some x) := by show _ = _; rw [HE.out, hM]; rfl
  clear hp hq hM HE HV
  unfold panE
  go_wp2
  exact ⟨rfl, Ret.bad HR.out HB1.out rfl⟩
 | none =>
  have hq := hq hM
  rw [hM, Option.none_or] at HE
  clear hp hM
  cases hO : oneV t m with
  | none =>
   rw [hO] at HE HV hq
   simp only [FieldP, FieldX] at hq
   rw [← hY] at hq
   subst hq
   have HVE : Hid (V = []) := HV.out
   clear hO HV hY
   cases must with
   | true =>
    have HR : Hid (E = some (20, sl wh m)) := HE.out
    clear HE
    go_upto_region 2 with fail
    refine wp_world ?_
    intro W2 hW2
    have x2 : Box W2 w1.heap.size [.string ⟨#[]⟩, .slice none 0 0, .slice none 0 0, .string ⟨#[]⟩, .string Y] := by rw [hW2]; exact Box.new w1 [.string ⟨#[]⟩, .slice none 0 0, .slice none 0 0, .string ⟨#[]⟩, .string Y] _ _ rfl
    have hb2 : Below w.heap.size w W2 := by rw [hW2]; exact HB1.out.alloc HB1.out.size _
    clear hW2
    have HX2 := Lib.hid x2
    have HB2 := Lib.hid hb2
    clear x2 hb2
    obtain ⟨a0, a1, a2, a3, a4⟩ := bxc5 HX2.out
    have al := HX2.out.lt
    go_wp2_with fail
    refine (failQ_any _ _ _).mono ?_
    rintro e w9 ⟨rfl, rfl⟩
    go_wp2
    refine ⟨rfl, Ret.bad HR.out HB2.out ?_⟩
    unfold panE faultQ
    rw [HY.out]
   | false =>
    have HR : Hid (E = none) := HE.out
    clear HE
    have HB2 : Hid (∀ o, Below w.heap.size w (w1.alloc o)) := fun o => HB1.out.alloc HB1.out.size o
    go_wp2
    go_ret
    refine Ret.good HR.out (HB2.out _) ?_
    rw [HVE.out]
    rfl
  | some k =>
   rw [hO] at HE HV hq
   obtain ⟨av2, kv2, rfl, hn⟩ := hq
   obtain ⟨p1, p2, p3, p4, rfl, rfl, -, -⟩ := hn.shape
   have HVE : Hid (V = textV k) := HV.out
   have HER : Hid (E = (textE k (sl wh m) false).or (if r (textV k) then none else some (20, sl wh m))) := HE.out
   have hmk := HM.out.one hO
   clear HE HV hO
   have HN := Lib.hid hn
   have HTX : Hid (∀ W, Below w1.heap.size w1 W → Calls Tryz.prog 84 #[.agg #[.string (bs k.name), .slice p1 k.attrs.length p2, .slice p3 k.kids.length p4, .string (bs k.text), .string Y], .bool false] W (Ret (textE k (sl wh m) false) (fun e _ => e = .returned (.string (bs (textV k)))) W)) := fun W h => by
    rw [hY]; exact textQ_any k (sl wh m) false W _ _ (HN.out.later h) hmk.kl hmk.txt
   clear hn hmk
   unfold elemV
   rw [← hY]
   clear hY
   go_upto_region 2 with fail
   refine wp_world ?_
   intro W2 hW2
   have x2 : Box W2 w1.heap.size [.string (bs k.name), .slice p1 k.attrs.length p2, .slice p3 k.kids.length p4, .string (bs k.text), .string Y] := by rw [hW2]; exact Box.new w1 [.string (bs k.name), .slice p1 k.attrs.length p2, .slice p3 k.kids.length p4, .string (bs k.text), .string Y] _ _ rfl
   have hb2 : Below w.heap.size w W2 := by rw [hW2]; exact HB1.out.alloc HB1.out.size _
   have hb12 : Below w1.heap.size w1 W2 := by rw [hW2]; exact (Below.refl _ w1).alloc (Nat.le_refl _) _
   clear hW2
   have HX2 := Lib.hid x2
   have HB2 := Lib.hid hb2
   have HB12 := Lib.hid hb12
   clear x2 hb2 hb12
   obtain ⟨a0, a1, a2, a3, a4⟩ := bxc5 HX2.out
   have al := HX2.out.lt
   go_wp2_with fail
   refine (HTX.out _ HB12.out).mono ?_
   rintro e w3 ⟨hb3, hp, hq⟩
   have HB3 := Lib.hid (HB2.out.trans (hb3.mono HB2.out.size))
   have HX3 := Lib.hid (HX2.out.below hb3 HX2.out.lt)
   clear a0 a1 a2 a3 a4 al HTX hb3 HX2
   cases hM : textE k (sl wh m) false with
   | some x =>
    obtain rfl := hp x hM
    have HR : Hid (E = some x) := by show _ = _; rw [HER.out, hM]; rfl
    clear hp hq hM HER HVE
    unfold panE
    go_wp2
    exact ⟨rfl, Ret.bad HR.out HB3.out rfl⟩
   | none =>
    obtain rfl := hq hM
    have hle := textE_none hM
    have HRR : Hid (E = if r (textV k) then none else some (20, sl wh m)) := by show _ = _; rw [HER.out, hM]; rfl
    clear hp hq hM HER
    have HTT := Lib.hid (HT.out.2 (textV k) w3 HB3.out hle)
    generalize hS : (bs (textV k) : S) = Z at *
    have HSZ := Lib.hid hS
    clear hS hle
    go_wp2_with fail
    rw [HT.out.1, Oper.upon_enter]
    refine HTT.out.mono ?_
    rintro e w4 ⟨rfl, hb4⟩
    have HB4 := Lib.hid (HB3.out.trans (hb4.mono HB3.out.size))
    have HX4 := Lib.hid (HX3.out.below hb4 HX3.out.lt)
    clear HTT hb4 HX3
    obtain ⟨a0, a1, a2, a3, a4⟩ := bxc5 HX4.out
    have al := HX4.out.lt
    obtain ⟨b, hb⟩ : ∃ b, b = r (textV k) := ⟨_, rfl⟩
    rw [← hb] at HRR ⊢
    clear hb
    cases b with
    | true =>
     have HR : Hid (E = none) := HRR.out
     clear HRR
     go_wp2
     go_ret
     refine Ret.good HR.out HB4.out ?_
     rw [HVE.out, HSZ.out]
     rfl
    | false =>
     have HR : Hid (E = some (20, sl wh m)) := HRR.out
     clear HRR
     go_wp2_with fail
     refine (failQ_any _ _ _).mono ?_
     rintro e w9 ⟨rfl, rfl⟩
     go_wp2
     refine ⟨rfl, Ret.bad HR.out HB4.out ?_⟩
     unfold panE faultQ
     rw [HY.out]

end Go.Proofs.YtbbbfjcikhpmbaaGreat

/- Walks of the tests that pom's reader makes of texts; the conditions stand in the theorems. -/
namespace Go.Proofs.YtbbbfjcikhpmbaaGreat
open Go Go.RowKit

def isPartS (s : S) : Bool := (s.toList == [42]) || isIdB s
theorem isPart_bs (s : Bs) : isPartS (bs s) = isPartQ s := by
 unfold isPartS isPartQ isIdQ
 have h := bs_beq2 s [42]
 have h2 : ((bs [42] : S)).toList = [42] := by decide +kernel
 rw [h2] at h
 rw [h]
theorem isWild_any (s : S) (w : World) (hs : s.size ≤ 9223372036854775807) : Calls Tryz.prog 149 #[.string s] w fun e w' => e = .returned (.bool (isPartS s)) ∧ Below w.heap.size w w' := by
 have HI := Lib.hid (isId_any s w hs)
 unfold isPartS
 generalize isIdB s = b at *
 go_enter Tryz.func149, Tryz.ntmps149
 generalize hq : (s.toList == [42]) = q at *
 cases q with
 | true =>
  go_wp2
  go_ret
  exact ⟨rfl, Below.refl _ _⟩
 | false =>
  go_wp2_with fail
  refine HI.out.mono ?_
  rintro e w1 ⟨rfl, hb⟩
  have HB := Lib.hid hb
  clear hb HI
  go_wp2
  go_ret
  exact ⟨by cases b <;> rfl, HB.out⟩
set_option maxHeartbeats 1000000 in
theorem mayPattern_any (x : Id) (w : World) (hg : x.group.size ≤ 9223372036854775807) (ha : x.artifact.size ≤ 9223372036854775807) : Calls Tryz.prog 132 #[.agg #[.string x.group, .string x.artifact]] w fun e w' => e = .returned (.bool (isPartS x.group && isPartS x.artifact)) ∧ Below w.heap.size w w' := by
 obtain ⟨g, a⟩ := x
 simp only at *
 have HG := Lib.hid (fun W => isWild_any g W hg)
 have HA := Lib.hid (fun W => isWild_any a W ha)
 have HB : Hid (∀ o, Below w.heap.size w (w.alloc o)) := fun o => (Below.refl _ w).alloc (Nat.le_refl _) _
 generalize isPartS g = p at *
 generalize isPartS a = q at *
 clear hg ha
 go_enter Tryz.func132, Tryz.ntmps132
 go_wp2_with fail
 refine (HG.out _).mono ?_
 rintro e w1 ⟨rfl, hb⟩
 have HX := Lib.hid ((Box.new w [.string g, .string a] 52 _ rfl).below hb (by simp))
 have HB1 := Lib.hid ((HB.out _).trans (hb.mono (HB.out (.cells #[.string g, .string a] 52)).size))
 have c0 := HX.out.cell 0 _ rfl
 have c1 := HX.out.cell 1 _ rfl
 have cl := HX.out.lt
 clear hb
 cases p with
 | false =>
  go_wp2
  go_ret
  exact ⟨rfl, HB1.out⟩
 | true =>
  go_wp2_with fail
  refine (HA.out _).mono ?_
  rintro e w2 ⟨rfl, hb2⟩
  have HB2 := Lib.hid (HB1.out.trans (hb2.mono HB1.out.size))
  clear hb2
  go_wp2
  go_ret
  exact ⟨by cases q <;> rfl, HB2.out⟩
theorem tests_free (w : World) : Tests w 39 #[] freeB := by
 refine ⟨fun args W => by kernel_rfl, fun s W _ _ => ?_⟩
 go_enter Tryz.func39, Tryz.ntmps39
 go_wp2
 go_ret
 exact ⟨rfl, Below.refl _ _⟩
theorem tests_id (w : World) : Tests w 37 #[] isIdQ :=
 ⟨fun args W => by kernel_rfl, fun s W _ hs => isId_any (bs s) W (by rw [bs_size]; omega)⟩
theorem tests_ver (w : World) : Tests w 38 #[] verQ :=
 ⟨fun args W => by kernel_rfl, fun s W _ hs => ver_any (bs s) W (by rw [bs_size]; omega)⟩
theorem tests_truth (w : World) : Tests w 126 #[] isTruthB := by
 refine ⟨fun args W => by kernel_rfl, fun s W _ _ => ?_⟩
 have h1 := bs_beq2 s bTrue
 have h2 := bs_beq2 s bFalse
 rw [show ((bs bTrue : S)).toList = [116, 114, 117, 101] from by decide +kernel] at h1
 rw [show ((bs bFalse : S)).toList = [102, 97, 108, 115, 101] from by decide +kernel] at h2
 unfold isTruthB
 generalize decide (s = bTrue) = p at *
 generalize decide (s = bFalse) = q at *
 show Calls Tryz.prog 126 #[.string (bs s)] W _
 generalize (bs s : S) = Z at *
 go_enter Tryz.func126, Tryz.ntmps126
 cases p <;> cases q <;> go_wp2 <;> go_ret <;> exact ⟨rfl, Below.refl _ _⟩
theorem tests_part (w : World) : Tests w 127 #[] isPartQ := by
 refine ⟨fun args W => by kernel_rfl, fun s W _ hs => ?_⟩
 have HP := Lib.hid (fun W => mayPattern_any ⟨bs s, bs s⟩ W (by rw [bs_size]; omega) (by rw [bs_size]; omega))
 simp only [isPart_bs, Bool.and_self] at HP
 show Calls Tryz.prog 127 #[.string (bs s)] W _
 generalize (bs s : S) = Z at *
 go_enter Tryz.func127, Tryz.ntmps127
 go_wp2_with fail
 refine (HP.out _).mono ?_
 rintro e w1 ⟨rfl, hb⟩
 have HB := Lib.hid hb
 clear hb
 go_wp2
 go_ret
 exact ⟨rfl, HB.out⟩
set_option maxHeartbeats 1000000 in
theorem tests_scope (w : World) (b : Nat) (m : Bool) (hb : b < w.heap.size) (hc : w.cell? ⟨b, 0, none⟩ = some (.bool m)) : Tests w 148 #[.pointer (some ⟨b, 0, none⟩)] (isScopeQ m) := by
 refine ⟨fun args W => by kernel_rfl, fun s W hW _ => ?_⟩
 have c0 := (hW.cell (p := ⟨b, 0, none⟩) (by exact hb)).trans hc
 have hlt : b < W.heap.size := Nat.lt_of_lt_of_le hb hW.size
 have HS := Lib.hid (fun W => scope_any s W)
 show Calls Tryz.prog 148 #[.string (bs s), .pointer (some ⟨b, 0, none⟩)] W _
 unfold isScopeQ
 generalize scopeW s = n at *
 generalize (bs s : S) = Z at *
 obtain ⟨x, hx⟩ : ∃ x, x = decide (n ≠ 0) := ⟨_, rfl⟩
 obtain ⟨y, hy⟩ : ∃ y, y = decide (n ≠ 6) := ⟨_, rfl⟩
 rw [← hx] at HS ⊢
 rw [← hy]
 have h6 : (n != 6) = y := by rw [hy]; by_cases h : n = 6 <;> simp [h]
 clear hx hy hc hW hb
 go_enter Tryz.func148, Tryz.ntmps148
 go_wp2_with fail
 refine (HS.out _).mono ?_
 rintro e w1 ⟨rfl, rfl⟩
 cases x <;> cases m <;> cases y <;> go_wp2 <;> go_ret <;> exact ⟨rfl, Below.refl _ _⟩

end Go.Proofs.YtbbbfjcikhpmbaaGreat

/- Walks of isName, isText and the document's IsName, plain; their conditions stand in the theorems. -/

namespace Go.Proofs.YtbbbfjcikhpmbaaGreat
open Go Go.RowKit

/-- Is a text a name? -/
def okName (l : Bs) : Bool := !l.isEmpty && decide (nameLen l = l.length)
/-- Are all bytes a text's? -/
def okText (l : Bs) : Bool := l.all cText
theorem okText_take {l : Bs} {k : Nat} (h : k < l.length) : okText (l.take (k + 1)) = (okText (l.take k) && cText l[k]) := by
 unfold okText
 rw [List.take_succ_eq_append_getElem h, List.all_append]; simp
theorem okText_false {l : Bs} {k : Nat} (h : k < l.length) (hc : cText l[k] = false) : okText l = false := by
 unfold okText
 rw [Bool.eq_false_iff]
 intro h2
 have := List.all_eq_true.1 h2 l[k] (List.getElem_mem h)
 rw [hc] at this; cases this
theorem get_data (s : S) (k : Nat) (h : k < s.size) : s.data.toList[k]'(by rw [size_data]; exact h) = s[k] := rfl

end Go.Proofs.YtbbbfjcikhpmbaaGreat

/- Equality of the structs that the program compares: one law a type, as the walk takes it. -/
namespace Go.Proofs.YtbbbfjcikhpmbaaGreat
open Go Go.RowKit

theorem str_beq (a b : S) : (a.toList == b.toList) = decide (a = b) := by
 rw [Bool.eq_iff_iff, beq_iff_eq, decide_eq_true_iff, ByteArray.toList_eq, ByteArray.toList_eq]
 constructor
 · intro h
   obtain ⟨⟨x⟩⟩ := a
   obtain ⟨⟨y⟩⟩ := b
   simpa using h
 · rintro rfl; rfl
theorem eqg_prp : Tryz.prog.eqGuardType Tryz.prog.depth 55 = false := by kernel_rfl
theorem eqs_prp : Tryz.prog.stoodInHeld 55 = false := by kernel_rfl
theorem neq_prp (a0 a1 b0 b1 : S) (w : World) : (binOp .neq 55 (.agg #[.string a0, .string a1]) (.agg #[.string b0, .string b1])).run Tryz.prog w = .ok (.bool (!(decide (a0 = b0) && decide (a1 = b1)))) w := by
 have h := eqs_prp
 by_cases h0 : a0 = b0 <;> by_cases h1 : a1 = b1 <;> simp [go_sem, h, h0, h1, str_beq]
theorem eqg_id : Tryz.prog.eqGuardType Tryz.prog.depth 52 = false := by kernel_rfl
theorem eqs_id : Tryz.prog.stoodInHeld 52 = false := by kernel_rfl
theorem neq_id (a0 a1 b0 b1 : S) (w : World) : (binOp .neq 52 (.agg #[.string a0, .string a1]) (.agg #[.string b0, .string b1])).run Tryz.prog w = .ok (.bool (!(decide (a0 = b0) && decide (a1 = b1)))) w := by
 have h := eqs_id
 by_cases h0 : a0 = b0 <;> by_cases h1 : a1 = b1 <;> simp [go_sem, h, h0, h1, str_beq]
theorem eqg_gav : Tryz.prog.eqGuardType Tryz.prog.depth 29 = false := by kernel_rfl
theorem eqs_gav : Tryz.prog.stoodInHeld 29 = false := by kernel_rfl
theorem eql_gav (a0 a1 a2 b0 b1 b2 : S) (w : World) : (binOp .eql 29 (.agg #[.string a0, .string a1, .string a2]) (.agg #[.string b0, .string b1, .string b2])).run Tryz.prog w = .ok (.bool (decide (a0 = b0) && decide (a1 = b1) && decide (a2 = b2))) w := by
 have h := eqs_gav
 by_cases h0 : a0 = b0 <;> by_cases h1 : a1 = b1 <;> by_cases h2 : a2 = b2 <;> simp [go_sem, h, h0, h1, h2, str_beq]

end Go.Proofs.YtbbbfjcikhpmbaaGreat

/- Walks: may a text be one that was read, by pom and by the document; the conditions stand in the theorems. -/

namespace Go.Proofs.YtbbbfjcikhpmbaaGreat
open Go Go.RowKit

/-- May a text be one that was read? -/
def okW (s : S) (b : Bool) : Bool := okText s.data.toList && (decide (s.size ≤ 1024) && (decide (trimB s.data.toList = s.data.toList) && (b || !s.toList.isEmpty)))
theorem data_eq {x s : S} : (x.data.toList = s.data.toList) = (x = s) := by
 refine propext ⟨fun h => ?_, fun h => by rw [h]⟩
 cases x; cases s
 simp only [ByteArray.mk.injEq]
 exact Array.toList_inj.1 h
set_option maxRecDepth 100000 in
set_option maxHeartbeats 4000000 in
theorem isTextQ_any (s : S) (b : Bool) (w : World) (hs : s.size ≤ 1000000) :
    Calls Tryz.prog 67 #[.string s, .bool b] w fun e w' => e = .returned (.bool (okW s b)) ∧ Below w.heap.size w w' := by
 obtain ⟨r, hr⟩ : ∃ r, r = okW s b := ⟨_, rfl⟩
 have HR : Hid (r = (okText s.data.toList && (decide (s.size ≤ 1024) && (decide (trimB s.data.toList = s.data.toList) && (b || !s.toList.isEmpty))))) := hr
 rw [← hr]
 have HTR : Hid (∀ W, Calls Tryz.prog 101 #[.string s] W fun e w' => ∃ x : S, e = .returned (.string x) ∧ (x.toList == s.toList) = decide (trimB s.data.toList = s.data.toList) ∧ W = w') := fun W => (trim_any s W (by omega)).mono fun e w' ⟨x, h1, h2, h3⟩ => ⟨x, h1, by rw [str_beq, ← h2]; exact decide_eq_decide.2 (iff_of_eq data_eq.symm), h3⟩
 obtain ⟨q, hq⟩ : ∃ q, q = decide (trimB s.data.toList = s.data.toList) := ⟨_, rfl⟩
 rw [← hq] at HTR HR
 have hE0 := empty_data s
 obtain ⟨em, hem⟩ : ∃ em, em = s.toList.isEmpty := ⟨_, rfl⟩
 have HEM := Lib.hid hem
 rw [← hem] at HR
 have HEZ : Hid (em = decide (s.size = 0)) := by show _ = _; rw [hem, hE0]
 clear hr hq hem hE0
 have hcv := fun (w : World) => conv_bytes w s
 go_enter Tryz.func67, Tryz.ntmps67
 go_wp2_with fail
 clear hcv
 refine wp_world ?_
 intro W hW
 have hcells := fun j h => bytesW_cell w s j h
 have hbel : Below w.heap.size w (bytesW w s) := bytesW_below w s _ (Nat.le_refl _)
 have hsz := bytesW_size w s
 rw [← hW] at hcells hbel hsz
 have HCE := Lib.hid hcells
 have HBE := Lib.hid hbel
 have HSZ := Lib.hid hsz
 clear hW hcells hbel hsz
 go_loopw [6, 10] (fun _ i wr => ∃ k : Nat, k ≤ s.size ∧ i = .int .i64 k ∧ wr = W ∧ Hid (okText (s.data.toList.take k) = true)) (fun _ i _ => s.size - (intOf i).toNat)
 case atStart => exact ⟨0, Nat.zero_le _, rfl, rfl, by show _ = _; rfl⟩
 case round =>
  obtain ⟨k, hk, rfl, hwr, HK⟩ := hrel
  obtain rfl : W = wr := hwr.symm
  by_cases hlt : k < s.size
  · have hi1 : (k : Int) < (s.size : Int) := by omega
    have hlt' : k < s.data.toList.length := by rw [size_data]; exact hlt
    have HT := Lib.hid (okText_take hlt')
    have HFF := Lib.hid (fun h => okText_false hlt' h)
    rw [get_data s k hlt] at HT HFF
    have HCT := Lib.hid (fun w => isText_any s[k] w)
    have c1 := HCE.out k hlt
    have hg1 : w.heap.size < W.heap.size := by have := HSZ.out; omega
    cases hc : cText s[k]
    · rw [hc] at HCT HFF
      have HN : Hid (r = false) := by show _ = _; rw [HR.out, HFF.out rfl]; rfl
      clear hc
      go_wp2_with fail
      refine (HCT.out _).mono ?_
      rintro e w8 ⟨rfl, hw8⟩
      obtain rfl : W = w8 := hw8
      go_wp2
      go_ret
      exact ⟨by rw [HN.out]; rfl, HBE.out⟩
    · rw [hc] at HCT HT
      clear hc
      go_wp2_with fail
      refine (HCT.out _).mono ?_
      rintro e w8 ⟨rfl, hw8⟩
      obtain rfl : W = w8 := hw8
      go_wp2
      go_roundw
      case rel => exact ⟨k + 1, hlt, by go_num, by first | rfl | trivial, by show _ = _; rw [HT.out, HK.out]; rfl⟩
      case measure => simp [intOf]; omega
  · obtain rfl : k = s.size := by omega
    have HO : Hid (okText s.data.toList = true) := by have := HK.out; rwa [List.take_of_length_le (by rw [size_data]; exact Nat.le_refl _)] at this
    clear HK hlt
    by_cases h1 : s.size ≤ 1024
    rotate_left
    · have hI : ¬ (s.size : Int) ≤ 1024 := by omega
      have HN : Hid (r = false) := by show _ = _; rw [HR.out, HO.out, decide_eq_false h1]; rfl
      clear h1
      go_wp2
      go_ret
      exact ⟨by rw [HN.out]; rfl, HBE.out⟩
    have hI : (s.size : Int) ≤ 1024 := by omega
    have HR2 : Hid (r = (q && (b || !em))) := by show _ = _; rw [HR.out, HO.out, decide_eq_true h1]; rfl
    clear HR HO
    go_wp2_with fail
    refine (HTR.out _).mono ?_
    rintro e w7 ⟨x, rfl, hx, hw7⟩
    obtain rfl := hw7
    have hE : s.toList.isEmpty = em := HEM.out.symm
    have hE2 : (!s.toList.isEmpty) = !em := by rw [hE]
    have hz : decide ((0 : Int) < (s.size : Int)) = !em := by rw [HEZ.out]; by_cases hz : s.size = 0 <;> simp [hz]; omega
    have hz2 : decide (0 < s.size) = !em := by rw [HEZ.out]; by_cases hz : s.size = 0 <;> simp [hz]; omega
    clear HTR
    cases q with
    | false =>
     clear hE hE2 hz hz2
     go_wp2
     go_ret
     exact ⟨by rw [HR2.out]; rfl, HBE.out⟩
    | true =>
     cases b with
     | true =>
      clear hE hE2 hz hz2
      go_wp2
      go_ret
      exact ⟨by rw [HR2.out]; rfl, HBE.out⟩
     | false =>
      cases em
      all_goals
       go_wp2
       go_ret
       exact ⟨by rw [HR2.out]; rfl, HBE.out⟩
set_option maxRecDepth 100000 in
set_option maxHeartbeats 4000000 in
theorem plainD_any (s : S) (b : Bool) (w : World) (hs : s.size ≤ 1000000) :
    Calls Tryz.prog 61 #[.string s, .bool b] w fun e w' => e = .returned (.bool (okW s b)) ∧ Below w.heap.size w w' := by
 obtain ⟨r, hr⟩ : ∃ r, r = okW s b := ⟨_, rfl⟩
 have HR : Hid (r = (okText s.data.toList && (decide (s.size ≤ 1024) && (decide (trimB s.data.toList = s.data.toList) && (b || !s.toList.isEmpty))))) := hr
 rw [← hr]
 have HTR : Hid (∀ W, Calls Tryz.prog 94 #[.string s] W fun e w' => ∃ x : S, e = .returned (.string x) ∧ (x.toList == s.toList) = decide (trimB s.data.toList = s.data.toList) ∧ W = w') := fun W => (refTrim_any s W (by omega)).mono fun e w' ⟨x, h1, h2, h3⟩ => ⟨x, h1, by rw [str_beq, ← h2]; exact decide_eq_decide.2 (iff_of_eq data_eq.symm), h3⟩
 obtain ⟨q, hq⟩ : ∃ q, q = decide (trimB s.data.toList = s.data.toList) := ⟨_, rfl⟩
 rw [← hq] at HTR HR
 have hE0 := empty_data s
 obtain ⟨em, hem⟩ : ∃ em, em = s.toList.isEmpty := ⟨_, rfl⟩
 have HEM := Lib.hid hem
 rw [← hem] at HR
 have HEZ : Hid (em = decide (s.size = 0)) := by show _ = _; rw [hem, hE0]
 clear hr hq hem hE0
 go_enter Tryz.func61, Tryz.ntmps61
 go_wp2_with fail
 have HBE : Hid (Below w.heap.size w w) := Below.refl _ _
 go_loop [5] (fun i => ∃ k : Nat, k ≤ s.size ∧ i = .int .i64 k ∧ Hid (okText (s.data.toList.take k) = true)) (fun i => s.size - (intOf i).toNat)
 case atStart => exact ⟨0, Nat.zero_le _, rfl, by show _ = _; rfl⟩
 case round =>
  obtain ⟨k, hk, rfl, HK⟩ := hrel
  by_cases hlt : k < s.size
  · have hi1 : (k : Int) < (s.size : Int) := by omega
    have hlt' : k < s.data.toList.length := by rw [size_data]; exact hlt
    have HT := Lib.hid (okText_take hlt')
    have HFF := Lib.hid (fun h => okText_false hlt' h)
    rw [get_data s k hlt] at HT HFF
    have HCT := Lib.hid (fun w => is16_any s[k] w)
    cases hc : cText s[k]
    · rw [hc] at HCT HFF
      have HN : Hid (r = false) := by show _ = _; rw [HR.out, HFF.out rfl]; rfl
      clear hc
      go_wp2_with fail
      refine (HCT.out _).mono ?_
      rintro e w8 ⟨rfl, hw8⟩
      obtain rfl : w = w8 := hw8
      go_wp2
      go_ret
      exact ⟨by rw [HN.out]; rfl, HBE.out⟩
    · rw [hc] at HCT HT
      clear hc
      go_wp2_with fail
      refine (HCT.out _).mono ?_
      rintro e w8 ⟨rfl, hw8⟩
      obtain rfl : w = w8 := hw8
      go_wp2
      go_round
      case rel => exact ⟨k + 1, hlt, by go_num, by show _ = _; rw [HT.out, HK.out]; rfl⟩
      case measure => simp [intOf]; omega
  · obtain rfl : k = s.size := by omega
    have HO : Hid (okText s.data.toList = true) := by have := HK.out; rwa [List.take_of_length_le (by rw [size_data]; exact Nat.le_refl _)] at this
    clear HK hlt
    by_cases h1 : s.size ≤ 1024
    rotate_left
    · have hI : ¬ (s.size : Int) ≤ 1024 := by omega
      have HN : Hid (r = false) := by show _ = _; rw [HR.out, HO.out, decide_eq_false h1]; rfl
      clear h1
      go_wp2
      go_ret
      exact ⟨by rw [HN.out]; rfl, HBE.out⟩
    have hI : (s.size : Int) ≤ 1024 := by omega
    have HR2 : Hid (r = (q && (b || !em))) := by show _ = _; rw [HR.out, HO.out, decide_eq_true h1]; rfl
    clear HR HO
    go_wp2_with fail
    refine (HTR.out _).mono ?_
    rintro e w7 ⟨x, rfl, hx, hw7⟩
    obtain rfl := hw7
    have hE : s.toList.isEmpty = em := HEM.out.symm
    have hE2 : (!s.toList.isEmpty) = !em := by rw [hE]
    have hz : decide ((0 : Int) < (s.size : Int)) = !em := by rw [HEZ.out]; by_cases hz : s.size = 0 <;> simp [hz]; omega
    have hz2 : decide (0 < s.size) = !em := by rw [HEZ.out]; by_cases hz : s.size = 0 <;> simp [hz]; omega
    clear HTR
    cases q with
    | false =>
     clear hE hE2 hz hz2
     go_wp2
     go_ret
     exact ⟨by rw [HR2.out]; rfl, HBE.out⟩
    | true =>
     cases b with
     | true =>
      clear hE hE2 hz hz2
      go_wp2
      go_ret
      exact ⟨by rw [HR2.out]; rfl, HBE.out⟩
     | false =>
      cases em
      all_goals
       go_wp2
       go_ret
       exact ⟨by rw [HR2.out]; rfl, HBE.out⟩

end Go.Proofs.YtbbbfjcikhpmbaaGreat
