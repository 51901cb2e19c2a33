/- The walk of pom's properties; the conditions stand in the theorem. -/
import Derived.Test.YtphaeegbmfpcgaaGreatDoorFB13
import Derived.Test.YtphaeegbmfpcgaaGreatDoorFB06
import Derived.Test.YtphaeegbmfpcgaaGreatDoorFB03

namespace Go.Proofs.YtphaeegbmfpcgaaGreatDoor
open Go Go.RowKit

theorem prpC_len2 (x : Prp) : (prpC x).length = 2 := rfl
theorem prpC_one2 (x : Prp) : ∀ y ∈ [x], ∀ u ∈ prpC y, u.oneCell' = true := by
 intro y hy u hu
 obtain rfl := List.mem_singleton.1 hy
 simp only [prpC, List.mem_cons, List.not_mem_nil, or_false] at hu
 rcases hu with rfl | rfl <;> rfl
theorem info_prpQ : (Tryz.prog.info? 117).map (fun i => (i.zero, i.size, i.bytes)) = some (some (.agg #[.string ⟨#[]⟩, .string ⟨#[]⟩]), 2, 32) := by kernel_rfl
theorem prp_lit (y : Prp) (W : World) (H : Nat) (hH : W.heap.size = H) : SliceOf 2 prpC (W.alloc (.cells (prpC y).toArray 117)) (.slice (some ⟨H, 0, none⟩) 1 1) [y] := by
 have h := sliceLit prpC_len2 W [y] 117 H 1 hH rfl (by unfold maxLen; simp)
 simpa using h
theorem hasN_prp (d : List Tr) (n : Bs) : hasN (d.map prpV) (bs n) = d.any (fun x => decide (x.name = n)) := by
 unfold hasN
 rw [List.any_map]
 congr 1
 funext x
 exact bs_beq2 x.name n
theorem propsEgo_at {w : Bs} {K : List Tr} {k : Nat} (h : k < K.length) : propsEgo w (K.drop k) (K.take k) = (if (K.take k).any (fun x => decide (x.name = K[k].name)) then some (20, two (sl w K[k].name)) else none).or ((textE K[k] (sl w K[k].name) true).or (propsEgo w (K.drop (k + 1)) (K.take (k + 1)))) := by
 rw [List.drop_eq_getElem_cons h, propsEgo, List.take_succ_eq_append_getElem h]
def PropsP (w : World) (l : List Prp) (e : Ending) (w' : World) : Prop := ∃ v, e = .returned v ∧ Owns w.heap.size 117 2 prpC w' v l
def ppUpd (B : Nat) (v0 v1 v2 v3 : Value) (x0 x1 y2 x3 x4 x5 x6 x7 x8 x9 x10 x11 x12 x13 x14 x15 x16 x17 x18 x19 x20 x21 x22 x23 x24 x25 x26 x27 x28 x29 x30 x31 x32 x33 x34 x35 x36 x37 x38 x39 x40 x41 x42 y43 y44 y45 y46 y47 y48 y49 y50 y51 y52 x53 x54 : Value) (f0 f1 f2 f3 f4 f5 f6 f7 f8 f9 f10 : Bool)  : Act :=
 ⟨#[x0, x1, cond f10 (undef) y2, x3, x4, x5, x6, x7, x8, x9, x10, x11, x12, x13, x14, x15, x16, x17, x18, x19, x20, x21, x22, x23, x24, x25, x26, x27, x28, x29, x30, x31, x32, x33, x34, x35, x36, x37, x38, x39, x40, x41, x42, cond f0 (y2) y43, cond f1 (.pointer (some ⟨B, 0, none⟩)) y44, cond f2 (v0) y45, cond f3 (.agg #[v0, v1, v2, v3]) y46, cond f4 (x8) y47, cond f5 (.agg #[v0, v1, v2, v3, x8]) y48, cond f6 (undef) y49, cond f7 (undef) y50, cond f8 (undef) y51, cond f9 (undef) y52, x53, x54], []⟩
def ppJ (B : Nat) (v0 v1 v2 v3 : Value) (V : World) (x0 x1 y2 x3 x4 x5 x6 x7 x8 x9 x10 x11 x12 x13 x14 x15 x16 x17 x18 x19 x20 x21 x22 x23 x24 x25 x26 x27 x28 x29 x30 x31 x32 x33 x34 x35 x36 x37 x38 x39 x40 x41 x42 y43 y44 y45 y46 y47 y48 y49 y50 y51 y52 x53 x54 : Value) (listed : Array Bool) (atx : Act) (w' : World) : Prop :=
 ∃ (f0 f1 f2 f3 f4 f5 f6 f7 f8 f9 f10 : Bool) , listed = #[f0, f1, f2, f3, f4, f5, f6, f7, f8, f9, f10] ∧ atx = ppUpd B v0 v1 v2 v3 x0 x1 y2 x3 x4 x5 x6 x7 x8 x9 x10 x11 x12 x13 x14 x15 x16 x17 x18 x19 x20 x21 x22 x23 x24 x25 x26 x27 x28 x29 x30 x31 x32 x33 x34 x35 x36 x37 x38 x39 x40 x41 x42 y43 y44 y45 y46 y47 y48 y49 y50 y51 y52 x53 x54 f0 f1 f2 f3 f4 f5 f6 f7 f8 f9 f10  ∧ w' = V.drew ∧ Hid (f6 = false ∧ f7 = false ∧ f8 = false ∧ f9 = false ∧ f10 = false)
set_option maxRecDepth 100000 in
set_option maxHeartbeats 16000000 in
theorem propsQ_any (t : Tr) (wh : Bs) (w : World) (av kv : Value) (ht : NodeOf w t av kv) (hm : MildW t) (hl : wh.length ≤ 100000000000) :
    Calls Tryz.prog 88 #[elemV t av kv wh] w (Ret (propsE t wh) (PropsP w (propsV t)) w) := by
 obtain ⟨ao, ac, ko, kc, rfl, rfl, hal, -⟩ := ht.shape
 have HF : Hid (∀ W, Below w.heap.size w W → Calls Tryz.prog 85 #[elemV t (.slice ao t.attrs.length ac) (.slice ko t.kids.length kc) wh, .string ⟨#[112, 114, 111, 112, 101, 114, 116, 105, 101, 115]⟩] W (Ret (manyE t wh bProperties) (FieldP wh bProperties (oneV t bProperties)) W)) := fun W h => field_any t wh bProperties W _ _ (ht.later h) hm.kl (by show _ + 10 ≤ _; omega)
 have HM := Lib.hid hm
 have HE : Hid (propsE t wh = (manyE t wh bProperties).or (match oneV t bProperties with
  | none => none
  | some f => (bigE (kidsF [] f.kids).length (sl wh bProperties)).or (propsEgo (sl wh bProperties) (kidsF [] f.kids) []))) := rfl
 have HV : Hid (propsV t = match oneV t bProperties with
  | none => []
  | some f => (kidsF [] f.kids).map prpV) := rfl
 obtain ⟨E, hE⟩ : ∃ E, E = propsE t wh := ⟨_, rfl⟩
 obtain ⟨V, hV⟩ : ∃ V, V = propsV t := ⟨_, rfl⟩
 rw [← hE] at HE ⊢
 rw [← hV] at HV ⊢
 clear hE hV ht hm
 obtain ⟨X, hX⟩ : ∃ X : S, X = bs wh := ⟨_, rfl⟩
 obtain ⟨Y, hY⟩ : ∃ Y : S, Y = bs (sl wh bProperties) := ⟨_, rfl⟩
 have HY : Hid ((bs (sl wh bProperties) : S) = Y) := hY.symm
 have hYz : Y.size = wh.length + 11 := by rw [hY, bs_size]; unfold sl; simp [bProperties]
 have HYZ : Hid (Y.size ≤ 1000000000000) := by show _ ≤ _; omega
 unfold elemV at HF ⊢
 rw [← hX] at HF ⊢
 clear hX hYz
 go_enter Tryz.func88, Tryz.ntmps88
 go_upto_region 1 with fail
 refine wp_world ?_
 intro W hW
 have x1 : Box W w.heap.size [.string (bs t.name), .slice ao t.attrs.length ac, .slice ko t.kids.length kc, .string (bs t.text), .string X] := by rw [hW]; exact Box.new w [.string (bs t.name), .slice ao t.attrs.length ac, .slice ko t.kids.length kc, .string (bs t.text), .string X] _ _ rfl
 have hb : Below w.heap.size w W := by rw [hW]; exact (Below.refl _ w).alloc (Nat.le_refl _) _
 clear hW
 have HX1 := Lib.hid x1
 have HB := Lib.hid hb
 clear x1 hb
 obtain ⟨a0, a1, a2, a3, a4⟩ := bxc5 HX1.out
 have al := HX1.out.lt
 go_wp2_with fail
 refine (HF.out _ HB.out).mono ?_
 rintro e w1 ⟨hb1, hp, hq⟩
 have HB1 := Lib.hid (HB.out.trans (hb1.mono HB.out.size))
 clear a0 a1 a2 a3 a4 al HF HX1 hb1
 cases hM : manyE t wh bProperties with
 | some x =>
  obtain rfl := hp x hM
  have HR : Hid (E = some x) := by show _ = _; rw [HE.out, hM]; rfl
  clear hp hq hM HE HV
  unfold panE
  go_wp2
  exact ⟨rfl, Ret.bad HR.out HB1.out rfl⟩
 | none =>
  have hq := hq hM
  rw [hM, Option.none_or] at HE
  clear hp hM
  cases hO : oneV t bProperties with
  | none =>
   rw [hO] at HE HV hq
   simp only [FieldP, FieldX] at hq
   rw [← hY] at hq
   subst hq
   have HVE : Hid (V = []) := HV.out
   have HR : Hid (E = none) := HE.out
   clear hO HV hY HE
   have HB2 : Hid (∀ o, Below w.heap.size w (w1.alloc o)) := fun o => HB1.out.alloc HB1.out.size o
   go_wp2
   go_ret
   refine Ret.good HR.out (HB2.out _) ⟨_, rfl, ?_⟩
   rw [HVE.out]
   exact Owns.nil
  | some k =>
   rw [hO] at HE HV hq
   obtain ⟨av2, kv2, rfl, hn⟩ := hq
   obtain ⟨p1, p2, p3, p4, rfl, rfl, -, -⟩ := hn.shape
   have hmk := HM.out.one hO
   obtain ⟨K, hK⟩ : ∃ K, K = kidsF [] k.kids := ⟨_, rfl⟩
   have HVE : Hid (V = K.map prpV) := by rw [hK]; exact HV.out
   have HER : Hid (E = (bigE K.length (sl wh bProperties)).or (propsEgo (sl wh bProperties) K [])) := by rw [hK]; exact HE.out
   have HC : Hid (∀ W, Below w1.heap.size w1 W → Calls Tryz.prog 129 #[.agg #[.string (bs k.name), .slice p1 k.attrs.length p2, .slice p3 k.kids.length p4, .string (bs k.text)], .string ⟨#[]⟩] W fun e w' => ∃ v L, e = .returned v ∧ L.map (·.1) = K ∧ Coll W.heap.size W w' v L) := fun W h => by rw [hK]; exact kids_any k [] W _ _ (hn.later h) hmk.kl
   have HMK : Hid (∀ y ∈ K, MildW y ∧ y.name.length ≤ 1000000000) := fun y hy => ⟨hmk.kids y (kidsF_sub (by rw [← hK]; exact hy)), hmk.pname (oneV_name hO (by decide)) y (kidsF_sub (by rw [← hK]; exact hy))⟩
   have hKL : K.length ≤ 100000 := by rw [hK]; exact Nat.le_trans (List.length_filter_le _ _) hmk.kl
   clear HE HV hO hn hmk hK
   unfold elemV
   rw [← hY]
   clear hY
   go_upto_region 2 with fail
   refine wp_world ?_
   intro W2 hW2
   have x2 : Box W2 w1.heap.size [.string (bs k.name), .slice p1 k.attrs.length p2, .slice p3 k.kids.length p4, .string (bs k.text), .string Y] := by rw [hW2]; exact Box.new w1 [.string (bs k.name), .slice p1 k.attrs.length p2, .slice p3 k.kids.length p4, .string (bs k.text), .string Y] _ _ rfl
   have hb2 : Below w.heap.size w W2 := by rw [hW2]; exact HB1.out.alloc HB1.out.size _
   have hb12 : Below w1.heap.size w1 W2 := by rw [hW2]; exact (Below.refl _ w1).alloc (Nat.le_refl _) _
   clear hW2
   have HX2 := Lib.hid x2
   have HB2 := Lib.hid hb2
   have HB12 := Lib.hid hb12
   clear x2 hb2 hb12
   obtain ⟨a0, a1, a2, a3, a4⟩ := bxc5 HX2.out
   have al := HX2.out.lt
   go_wp2_with fail
   refine (HC.out _ HB12.out).mono ?_
   rintro e w3 ⟨v, L, rfl, hL, hco⟩
   obtain ⟨la, lc, rfl⟩ := hco.own.shape
   have hb3 := hco.below
   have HB3 := Lib.hid (HB2.out.trans (hb3.mono HB2.out.size))
   have HX3 := Lib.hid (HX2.out.below hb3 HX2.out.lt)
   have HCO : Hid (SliceOf 4 trC w3 (.slice la L.length lc) L ∧ ∀ y ∈ L, NodeOf w3 y.1 y.2.1 y.2.2) := ⟨hco.own.slice trC_len, fun y hy => (hco.nodes y hy).node⟩
   have hLK : L.length = K.length := by rw [← hL]; simp
   rw [hLK] at HCO ⊢
   have HLM := Lib.hid hL
   have HLK := Lib.hid hLK
   clear a0 a1 a2 a3 a4 al hb3 hco HC HX2 hL hLK
   obtain ⟨a0, a1, a2, a3, a4⟩ := bxc5 HX3.out
   have al := HX3.out.lt
   by_cases hbig : 1024 < K.length
   · have hbI : (1024 : Int) < (K.length : Int) := by omega
     have HR : Hid (E = some (2, sl wh bProperties)) := by show _ = _; rw [HER.out]; unfold bigE; rw [if_pos hbig]; rfl
     clear hbig HER HVE
     go_wp2_with fail
     refine (failQ_any _ _ _).mono ?_
     rintro e w9 ⟨rfl, rfl⟩
     go_wp2
     refine ⟨rfl, Ret.bad HR.out HB3.out ?_⟩
     unfold panE faultQ
     rw [HY.out]
   · have hbI : ¬ (1024 : Int) < (K.length : Int) := by omega
     have HRG : Hid (E = propsEgo (sl wh bProperties) K []) := by show _ = _; rw [HER.out]; unfold bigE; rw [if_neg hbig]; rfl
     have HKS : Hid (K.length ≤ 1024) := by show _ ≤ _; omega
     clear hbig HER
     go_wp2
     clear a0 a1 a2 a3 a4 al
     go_loopw [2, 27] (fun v i wr => ∃ (k : Nat) (oa : Option Addr) (oc : Nat), k ≤ K.length ∧ i = .int .i64 k ∧ v = .slice oa k oc ∧ Hid (Below w3.heap.size w3 wr ∧ Owns w3.heap.size 117 2 prpC wr (.slice oa k oc) ((K.take k).map prpV) ∧ E = propsEgo (sl wh bProperties) (K.drop k) (K.take k))) (fun _ i _ => K.length - (intOf i).toNat)
     case atStart => exact ⟨0, none, 0, Nat.zero_le _, rfl, rfl, Below.refl _ _, Owns.nil, HRG.out⟩
     case round =>
      obtain ⟨k, oa, oc, hk, rfl, rfl, HRR⟩ := hrel
      by_cases hlt : k < K.length
      · have hb1r := HRR.out.1
        have hs1 := hb1r.size
        have HCW : Hid (SliceOf 4 trC wr (.slice la L.length lc) L ∧ ∀ y ∈ L, NodeOf wr y.1 y.2.1 y.2.2) := ⟨by rw [HLK.out]; exact HCO.out.1.below hb1r, fun y hy => (HCO.out.2 y hy).later hb1r⟩
        obtain ⟨g, o1, q1, q2, q3, q4, hla, hg, c0, c1, c2, c3, hn⟩ := nodesQ HCW.out.1 HCW.out.2 k (by rw [HLK.out]; exact hlt)
        subst hla
        have HZ1 := Lib.hid (HX3.out.below hb1r HX3.out.lt)
        have hki : (k : Int) < (K.length : Int) := by omega
        have hkL : k < L.length := by rw [HLK.out]; exact hlt
        have hyk : K[k] = L[k].1 := by simp only [← HLM.out, List.getElem_map]
        have HTK := Lib.hid (by rw [List.take_succ_eq_append_getElem hlt, hyk] : K.take (k + 1) = K.take k ++ [L[k].1])
        have HEG := Lib.hid (by rw [HRR.out.2.2, propsEgo_at hlt, hyk] : E = (if (K.take k).any (fun x => decide (x.name = L[k].1.name)) then some (20, two (sl (sl wh bProperties) L[k].1.name)) else none).or ((textE L[k].1 (sl (sl wh bProperties) L[k].1.name) true).or (propsEgo (sl wh bProperties) (K.drop (k + 1)) (K.take (k + 1)))))
        have hmy : MildW L[k].1 ∧ L[k].1.name.length ≤ 1000000000 := by rw [← hyk]; exact HMK.out _ (List.getElem_mem hlt)
        have HMY := Lib.hid hmy
        have HNN := Lib.hid hn
        have HOR := Lib.hid HRR.out.2.1
        have HLN : Hid (((K.take k).map prpV).length = k) := by show _ = _; rw [List.length_map, List.length_take]; omega
        clear hn hyk hmy
        generalize L[k] = y at *
        obtain ⟨t1, ya, yk⟩ := y
        simp only at c0 c1 c2 c3 HNN HTK HMY HEG
        have hnz : (bs t1.name : S).size ≤ 1000000000 := by rw [bs_size]; exact HMY.out.2
        have hyz := HYZ.out
        have hs1' : ¬ 9223372036854775807 < Y.size + 1 := by omega
        have hs2' : ¬ 9223372036854775807 < Y.size + 1 + (bs t1.name : S).size := by omega
        have hs3' : ¬ 9223372036854775807 < Y.size + 1 + (bs t1.name : S).size + 3 := by omega
        have HPA : Hid (Y ++ ⟨#[47]⟩ ++ bs t1.name = bs (sl (sl wh bProperties) t1.name)) := by
         rw [← HY.out]; show bs (sl wh bProperties) ++ bs [47] ++ bs t1.name = _; rw [bs_append, bs_append, List.append_assoc]; rfl
        have HDU := Lib.hid (hasN_prp (K.take k) t1.name)
        clear hnz hyz
        go_upto_region 10 with fail
        refine wp_world ?_
        intro W7 hW7
        have x7 : Box W7 wr.heap.size [.string (bs t1.name), .slice q1 t1.attrs.length q2, .slice q3 t1.kids.length q4, .string (bs t1.text)] := by rw [hW7]; exact Box.new wr [.string (bs t1.name), .slice q1 t1.attrs.length q2, .slice q3 t1.kids.length q4, .string (bs t1.text)] _ _ rfl
        have hb7 : Below wr.heap.size wr W7 := by rw [hW7]; exact (Below.refl _ wr).alloc (Nat.le_refl _) _
        clear hW7
        have HX7 := Lib.hid x7
        have HB7 := Lib.hid hb7
        have HZ7 := Lib.hid (HZ1.out.below hb7 HZ1.out.lt)
        have HO7 := Lib.hid (HOR.out.below hb7)
        clear x7 hb7 c0 c1 c2 c3
        obtain ⟨c0, c1, c2, c3⟩ := bxc4 HX7.out
        have cl := HX7.out.lt
        have d4 := HZ7.out.cell 4 _ rfl
        have dl := HZ7.out.lt
        obtain ⟨q, hq⟩ : ∃ q, q = (K.take k).any (fun x => decide (x.name = t1.name)) := ⟨_, rfl⟩
        rw [← hq] at HEG HDU
        have HCP : Hid (Calls Tryz.prog 131 #[.slice oa k oc, .func (.func 132) #[] #[.pointer (some ⟨wr.heap.size, 0, none⟩)]] W7 fun e w' => e = .returned (.bool q) ∧ Below W7.heap.size W7 w') := by
         show Calls _ _ _ _ _
         have h9 := containsP_any ((K.take k).map prpV) (bs t1.name) (.slice oa k oc) wr.heap.size W7 (HO7.out.slice prpC_len2) (HX7.out.cell 0 _ rfl) HX7.out.lt
         rw [HDU.out] at h9
         exact h9
        clear hq HDU
        go_wp2_with fail
        refine HCP.out.mono ?_
        rintro e w8 ⟨rfl, hb8⟩
        have HBR8 := Lib.hid (HB7.out.trans (hb8.mono HB7.out.size))
        have HX8 := Lib.hid (HX7.out.below hb8 HX7.out.lt)
        have HZ8 := Lib.hid (HZ7.out.below hb8 HZ7.out.lt)
        have HO8 := Lib.hid (HO7.out.below hb8)
        clear HCP hb8 c0 c1 c2 c3 cl d4 dl HX7 HZ7 HO7
        obtain ⟨c0, c1, c2, c3⟩ := bxc4 HX8.out
        have cl := HX8.out.lt
        have d4 := HZ8.out.cell 4 _ rfl
        have dl := HZ8.out.lt
        cases q with
        | true =>
         have HR : Hid (E = some (20, two (sl (sl wh bProperties) t1.name))) := HEG.out
         have HPT : Hid (Y ++ ⟨#[47]⟩ ++ bs t1.name ++ ⟨#[91, 50, 93]⟩ = bs (two (sl (sl wh bProperties) t1.name))) := two_bs _ _ _ _ HPA.out
         clear HEG
         go_wp2_with fail
         refine (failQ_any _ _ _).mono ?_
         rintro e w9 ⟨rfl, rfl⟩
         go_wp2
         refine ⟨rfl, Ret.bad HR.out (HB3.out.trans ((HRR.out.1.trans (HBR8.out.mono hs1)).mono HB3.out.size)) ?_⟩
         unfold panE faultQ
         rw [HPT.out]
        | false =>
         have HEG2 : Hid (E = (textE t1 (sl (sl wh bProperties) t1.name) true).or (propsEgo (sl wh bProperties) (K.drop (k + 1)) (K.take (k + 1)))) := HEG.out
         clear HEG
         have HDR : Hid (Below w8.heap.size w8 w8.drew) := belowN (Below.refl _ _) 1
         have HTQ : Hid (∀ W, Below w8.heap.size w8 W → Calls Tryz.prog 130 #[.agg #[.string (bs t1.name), .slice q1 t1.attrs.length q2, .slice q3 t1.kids.length q4, .string (bs t1.text), .string (Y ++ ⟨#[47]⟩ ++ bs t1.name)], .bool true] W (Ret (textE t1 (sl (sl wh bProperties) t1.name) true) (fun e _ => e = .returned (.string (bs (textV t1)))) W)) := fun W h => by
          rw [HPA.out]
          exact textQ_any t1 _ true W _ _ (HNN.out.later ((HBR8.out.trans (h.mono HBR8.out.size)))) HMY.out.1.kl HMY.out.1.txt
         cases hM2 : textE t1 (sl (sl wh bProperties) t1.name) true with
         | some x =>
          have HR : Hid (E = some x) := by show _ = _; rw [HEG2.out, hM2]; rfl
          have HTX : Hid (∀ W, Below w8.heap.size w8 W → Calls Tryz.prog 130 #[.agg #[.string (bs t1.name), .slice q1 t1.attrs.length q2, .slice q3 t1.kids.length q4, .string (bs t1.text), .string (Y ++ ⟨#[47]⟩ ++ bs t1.name)], .bool true] W fun e w' => e = .panicked [{ v := .iface 161 (.agg #[.int .i64 x.1, .string (bs x.2)]), recovered := false }] ∧ Below w8.heap.size w8 w') := fun W h =>
           (HTQ.out W h).mono fun e w' ⟨h1, h2, h3⟩ => ⟨h2 x hM2, h.trans (h1.mono h.size)⟩
          clear hM2 HTQ HEG2
          go_upto_region 13 with fail
          refine wp_region_flags0 (ppJ wr.heap.size (.string (bs t1.name)) (.slice q1 t1.attrs.length q2) (.slice q3 t1.kids.length q4) (.string (bs t1.text)) w8 _ _ _ _ _ _ _ _ _ _ _ _ _ _ _ _ _ _ _ _ _ _ _ _ _ _ _ _ _ _ _ _ _ _ _ _ _ _ _ _ _ _ _ _ _ _ _ _ _ _ _ _ _ _ _) (by kernel_rfl) 11 rfl (by kernel_rfl) ⟨false, false, false, false, false, false, false, false, false, false, false, rfl, rfl, rfl, ⟨rfl, rfl, rfl, rfl, rfl⟩⟩ ?fin ?step
          case fin =>
           rintro a' w' ⟨f0, f1, f2, f3, f4, f5, f6, f7, f8, f9, f10, hl, rfl, hw, h6⟩
           have hl' : [true, true, true, true, true, true, true, true, true, true, true] = [f0, f1, f2, f3, f4, f5, f6, f7, f8, f9, f10] := congrArg Array.toList hl
           simp only [List.cons.injEq, and_true] at hl'
           obtain ⟨rfl, rfl, rfl, rfl, rfl, rfl, rfl, rfl, rfl, rfl, rfl⟩ := hl'
           unfold ppUpd
           simp only [cond_true]
           exact (Bool.false_ne_true h6.out.1.symm).elim
          case step =>
           rintro listed a' w' ⟨f0, f1, f2, f3, f4, f5, f6, f7, f8, f9, f10, rfl, rfl, hw, h6⟩ i hi
           rw [mem_ready] at hi
           obtain ⟨hu, o, ho, ha⟩ := hi
           have hi8 : i < 11 := (Array.getElem?_eq_some_iff.1 ho).1
           rcases (by omega : i = 0 ∨ i = 1 ∨ i = 2 ∨ i = 3 ∨ i = 4 ∨ i = 5 ∨ i = 6 ∨ i = 7 ∨ i = 8 ∨ i = 9 ∨ i = 10) with rfl | rfl | rfl | rfl | rfl | rfl | rfl | rfl | rfl | rfl | rfl
           · have ho' := ho
             simp at hu ho
             subst hu ho
             clear ha
             obtain rfl : f10 = false := h6.out.2.2.2.2
             subst hw
             refine .inl ?_
             unfold ppUpd Oper.wp
             go_simp
             exact ⟨true, f1, f2, f3, f4, f5, f6, f7, f8, f9, false, rfl, rfl, rfl, h6⟩
           · have ho' := ho
             simp at hu ho
             subst hu ho
             clear ha
             subst hw
             refine .inl ?_
             unfold ppUpd Oper.wp
             go_simp
             exact ⟨f0, true, f2, f3, f4, f5, f6, f7, f8, f9, f10, rfl, rfl, rfl, h6⟩
           · have ho' := ho
             simp at hu ho
             subst hu ho
             simp [Region.binds] at ha
             obtain rfl : f1 = true := by simp only [ha]
             clear ha
             subst hw
             refine .inl ?_
             unfold ppUpd Oper.wp
             go_simp
             exact ⟨f0, true, true, f3, f4, f5, f6, f7, f8, f9, f10, rfl, rfl, rfl, h6⟩
           · have ho' := ho
             simp at hu ho
             subst hu ho
             clear ha
             subst hw
             refine .inl ?_
             unfold ppUpd Oper.wp
             go_simp
             exact ⟨f0, f1, f2, true, f4, f5, f6, f7, f8, f9, f10, rfl, rfl, rfl, h6⟩
           · have ho' := ho
             simp at hu ho
             subst hu ho
             clear ha
             subst hw
             refine .inl ?_
             unfold ppUpd Oper.wp
             go_simp
             exact ⟨f0, f1, f2, f3, true, f5, f6, f7, f8, f9, f10, rfl, rfl, rfl, h6⟩
           · have ho' := ho
             simp at hu ho
             subst hu ho
             simp [Region.binds] at ha
             obtain rfl : f3 = true := by simp only [ha]
             obtain rfl : f4 = true := by simp only [ha]
             clear ha
             subst hw
             refine .inl ?_
             unfold ppUpd Oper.wp
             go_simp
             exact ⟨f0, f1, f2, true, true, true, f6, f7, f8, f9, f10, rfl, rfl, rfl, h6⟩
           · have ho' := ho
             simp at hu ho
             subst hu ho
             simp [Region.binds] at ha
             obtain rfl : f5 = true := by simp only [ha]
             clear ha
             subst hw
             refine .inl ?_
             unfold ppUpd Oper.wp
             go_simp
             refine (HTX.out _ HDR.out).mono ?_
             rintro e w9 ⟨rfl, hb9⟩
             exact ⟨rfl, Ret.bad HR.out (HB3.out.trans ((HRR.out.1.trans ((HBR8.out.trans (hb9.mono HBR8.out.size)).mono hs1)).mono HB3.out.size)) rfl⟩
           · have ho' := ho
             simp at hu ho
             subst hu ho
             simp [Region.binds] at ha
             obtain rfl : f6 = true := by simp only [ha]
             clear ha
             exact (Bool.false_ne_true h6.out.1.symm).elim
           · have ho' := ho
             simp at hu ho
             subst hu ho
             simp [Region.binds] at ha
             obtain rfl : f7 = true := by simp only [ha]
             clear ha
             exact (Bool.false_ne_true h6.out.2.1.symm).elim
           · have ho' := ho
             simp at hu ho
             subst hu ho
             simp [Region.binds] at ha
             obtain rfl : f8 = true := by simp only [ha]
             clear ha
             exact (Bool.false_ne_true h6.out.2.2.1.symm).elim
           · have ho' := ho
             simp at hu ho
             subst hu ho
             simp [Region.binds] at ha
             obtain rfl : f9 = true := by simp only [ha]
             clear ha
             exact (Bool.false_ne_true h6.out.2.2.2.1.symm).elim
         | none =>
          have HTX : Hid (∀ W, Below w8.heap.size w8 W → Calls Tryz.prog 130 #[.agg #[.string (bs t1.name), .slice q1 t1.attrs.length q2, .slice q3 t1.kids.length q4, .string (bs t1.text), .string (Y ++ ⟨#[47]⟩ ++ bs t1.name)], .bool true] W fun e w' => e = .returned (.string (bs (textV t1))) ∧ Below W.heap.size W w') := fun W h =>
           (HTQ.out W h).mono fun e w' ⟨h1, h2, h3⟩ => ⟨h3 hM2, h1⟩
          have HEN : Hid (E = propsEgo (sl wh bProperties) (K.drop (k + 1)) (K.take (k + 1))) := by show _ = _; rw [HEG2.out, hM2]; rfl
          clear hM2 HTQ HEG2
          have HO8D : Hid (Owns w3.heap.size 117 2 prpC w8.drew (.slice oa k oc) ((K.take k).map prpV)) := HO8.out
          have HX8D : Hid (Box w8.drew wr.heap.size [.string (bs t1.name), .slice q1 t1.attrs.length q2, .slice q3 t1.kids.length q4, .string (bs t1.text)]) := ⟨HX8.out.lt, HX8.out.cell, HX8.out.free⟩
          have HSL : Hid (∀ V : World, SliceOf 2 prpC (V.alloc (.cells #[.string (bs t1.name), .string (bs (textV t1))] 117)) (.slice (some ⟨V.heap.size, 0, none⟩) 1 1) [prpV t1]) := fun V => prp_lit (prpV t1) V _ rfl
          have HBY : Hid ((((K.take k).map prpV).length + [prpV t1].length) * 32 ≤ 140737488355328) := by show _ ≤ _; rw [HLN.out]; have := HKS.out; simp only [List.length_cons, List.length_nil]; omega
          have HBS : Hid (∀ (V : World) (o : Obj), w8.heap.size ≤ V.heap.size → w3.heap.size ≤ (V.alloc o).heap.size) := fun V o h => by have h1 := HBR8.out.size; have h2 := hs1; show _ ≤ (V.heap.push o).size; simp only [Array.size_push]; omega
          have HBA : Hid (∀ (V : World) (o : Obj), Below w8.drew.heap.size w8.drew V → Below w3.heap.size wr (V.alloc o)) := fun V o h => (((HBR8.out.mono hs1).trans ((belowN (Below.refl _ _) 1 : Below w8.heap.size w8 w8.drew).mono (by have := HBR8.out.size; omega))).trans (h.mono (by have := HBR8.out.size; show _ ≤ w8.heap.size; omega))).alloc (by have := HBR8.out.size; have h2 : w8.heap.size ≤ V.heap.size := h.size; omega) o
          have HNB : Hid (∀ g, (Value.slice oa k oc).ownBlock = some g → w3.heap.size ≤ g) := fun g h => (HOR.out.lt _ h).1
          have HNE : Hid (some wr.heap.size ≠ (Value.slice oa k oc).ownBlock) := fun h => by have := (HOR.out.lt _ h.symm).2; omega
          go_upto_region 13 with fail
          go_region_held3 (fun w' => w'.cell? ⟨wr.heap.size, 0, none⟩ = some (.string (bs t1.name)) ∧ w'.cell? ⟨wr.heap.size, 1, none⟩ = some (.slice q1 t1.attrs.length q2) ∧ w'.cell? ⟨wr.heap.size, 2, none⟩ = some (.slice q3 t1.kids.length q4) ∧ w'.cell? ⟨wr.heap.size, 3, none⟩ = some (.string (bs t1.text))) (first | exact ⟨c0, c1, c2, c3⟩ | exact ⟨hx8.out.cell 0 _ rfl, hx8.out.cell 1 _ rfl, hx8.out.cell 2 _ rfl, hx8.out.cell 3 _ rfl⟩ | exact ⟨e0, e1, e2, e3⟩ | (go_keep; done)) (first | (go_at_call 130; refine (HTX.out _ HDR.out).mono ?_; rintro e w9 ⟨rfl, hb9⟩; have hx9 := Lib.hid (HX8D.out.below hb9 HX8D.out.lt); have HB9 := Lib.hid hb9; have e0 := hx9.out.cell 0 _ rfl; have e1 := hx9.out.cell 1 _ rfl; have e2 := hx9.out.cell 2 _ rfl; have e3 := hx9.out.cell 3 _ rfl; clear hb9) | (refine step_append_slice _ rfl (.tmp 43) (.tmp 51) 45 rfl w3.heap.size 117 Tryz.underlying45 info_prpQ rfl (by decide) prpC_len2 (.slice oa k oc) ((K.take k).map prpV) (by simp [Act.eval]) (Owns.alloc (HO8D.out.below HB9.out) _) _ [prpV t1] (by simp [Act.eval]) (HSL.out _) (prpC_one2 _) HBY.out (by decide) (HBS.out _ _ HB9.out.size) ?_; intro a8 n8 c8 wz hown8 hgrow8; have hB8 := Lib.hid (below_thenQ (HBA.out _ _ HB9.out) hs1 hgrow8 HNB.out); have hO8 := Lib.hid hown8; have hx8 := Lib.hid ((Box.alloc hx9.out _).grown hgrow8 HNE.out); clear hown8 hgrow8))
          obtain ⟨_, _, he8⟩ := hO8.out.shape
          simp only [Value.slice.injEq, List.length_append, List.length_cons, List.length_nil, HLN.out, Nat.zero_add] at he8
          obtain ⟨-, he8, -⟩ := he8
          subst he8
          go_wp2
          go_roundw
          case rel =>
           have h1 := HRR.out
           refine ⟨k + 1, a8, c8, hlt, by go_num, rfl, h1.1.trans hB8.out, ?_, HEN.out⟩
           rw [HTK.out, List.map_append]
           exact hO8.out
          case measure => simp [intOf]; omega
      · obtain rfl : k = K.length := by omega
        go_wp2
        go_ret
        have h1 := HRR.out
        have hEN : E = none := by rw [h1.2.2, List.drop_length]; rfl
        refine Ret.good hEN (HB3.out.trans (h1.1.mono HB3.out.size)) ⟨_, rfl, ?_⟩
        rw [HVE.out]
        have h2 := h1.2.1
        rw [List.take_length] at h2
        exact h2.base_mono HB3.out.size

end Go.Proofs.YtphaeegbmfpcgaaGreatDoor

/- A variable of the call's own that holds a struct: loads, results; append in a region walked by flags; rows beside the call's own variable; the conditions stand in the theorems. -/

namespace Go.Proofs.YtphaeegbmfpcgaaGreatDoor
open Go Go.RowKit

theorem wpList_load_box {P : Program} {ops : Array Oper} {rest : List Oper} {op : Oper} {a : Act} {w : World} {Q : Exit → Act → World → Prop} (hgd : op.guard = none) (ty : TypeId) (x : Operand) (ho : op.op = .load ty x)
    (b : Nat) (cs : List Value) (hx : a.eval x = .pointer (some ⟨b, 0, none⟩)) (hb : Box w b cs) {d : TypeDesc} (hu : P.underlying ty = some d) (hd : d.isRow = true) (hi : (P.info? ty).map (·.size) = some cs.length)
    (h : wpList P ops Q rest (a.put op.dst (.agg cs.toArray)) w) : wpList P ops Q (op :: rest) a w :=
 wpList_load_mid hgd ty x ho b 0 hx cs d (fun j v hv => by rw [Nat.zero_add]; exact hb.cell j v hv) hu hd hi h
theorem results_cell_box {P : Program} {fn : Func} {p : Tmp} {ty : TypeId} (h : fn.results = #[.cell p ty]) (tmps : Array Value) (w : World) (b : Nat) (cs : List Value) (hp : tmps.getD p undef = .pointer (some ⟨b, 0, none⟩)) (hb : Box w b cs)
    {d : TypeDesc} (hu : P.underlying ty = some d) (hd : d.isRow = true) (hi : (P.info? ty).map (·.size) = some cs.length) : (results fn tmps).run P w = .ok (.agg cs.toArray) w := by
 have hp' : tmps[p]?.getD undef = .pointer (some ⟨b, 0, none⟩) := by simpa using hp
 simp [results, h, hp', asAddr, run_loadVar_mid w b 0 ty cs d (fun j v hv => by rw [Nat.zero_add]; exact hb.cell j v hv) hu hd hi]
theorem wp_append_one {P : Program} {o : Oper} {a : Act} {w : World} {K : Act → World → Prop} {Q : Exit → Act → World → Prop} {α : Type} {C : α → List Value} (hgd : o.guard = none) (s x : Operand) (t : TypeId)
    (ho : o.op = .call { callee := .builtin .append, args := #[s, x], argTypes := #[t, t] })
    (base : Nat) (e : TypeId) {z : Value} {size bytes : Nat} (ht : P.underlying t = some (.slice e)) (hinfo : (P.info? e).map (fun i => (i.zero, i.size, i.bytes)) = some (some z, size, bytes)) (hzs : z.cells.size = size) (hsz : 0 < size) (hC : ∀ y, (C y).length = size)
    (v : Value) (l : List α) (hs : a.eval s = v) (hown : Owns base e size C w v l) (H : Nat) (y : α) (hx : a.eval x = .slice (some ⟨H, 0, none⟩) 1 1) (hnews : ∀ j u, (C y)[j]? = some u → w.cell? ⟨H, j, none⟩ = some u) (h1 : ∀ u ∈ C y, u.oneCell' = true)
    (hbytes : (l.length + 1) * bytes ≤ 140737488355328) (hb0 : 0 < bytes) (hbase : base ≤ w.heap.size) (N : Nat) (hN : w.heap.size = N)
    (h : ∀ g cap w', Owns base e size C w' (.slice (some ⟨g, 0, none⟩) (l.length + 1) cap) (l ++ [y]) → w.grownBy w' v.ownBlock → (v.ownBlock = some g ∨ g = N) → g < w'.heap.size → K (a.put o.dst (.slice (some ⟨g, 0, none⟩) (l.length + 1) cap)) w') : Oper.wp P o a w K Q := by
 have h2 := step_append_one (ops := #[]) (Q := Q) (E := True) hgd s x t ho base e ht hinfo hzs hsz hC v l hs hown H y hx hnews h1 hbytes hb0 hbase N hN h
 rwa [if_pos (by simp [Region.wanted, hgd])] at h2
/-- Blocks from B on may have turned where only the row has, and that lies from B on. -/
theorem below_row {B g : Nat} {w w' : World} (hg : w.grownBy w' (some g)) (hB : B ≤ g) (hs : B ≤ w.heap.size) : Below B w w' :=
 ⟨hg.os, hg.tape, hg.output, hg.size, fun k hk => hg.block k (by omega) (by intro e; cases e; omega)⟩
theorem grown_after {v w w' : World} {row : Option Nat} (h : Below v.heap.size v w) (hg : w.grownBy w' row) : v.grownBy w' row :=
 ⟨hg.os.trans h.os, hg.tape.trans h.tape, hg.output.trans h.output, Nat.le_trans h.size hg.size, fun k hk hne => (hg.block k (Nat.lt_of_lt_of_le hk h.size) hne).trans (h.block k hk)⟩
/-- A row of the call's own beside the variable that turns. -/
theorem grown_row {v w w' : World} {g : Nat} {x : Value} {B : Nat} (h : v.grownBy w (some g)) (hg : w.grownBy w' x.ownBlock) (hx : ∀ k, x.ownBlock = some k → B ≤ k) (hB : v.heap.size ≤ B) : v.grownBy w' (some g) :=
 ⟨hg.os.trans h.os, hg.tape.trans h.tape, hg.output.trans h.output, Nat.le_trans h.size hg.size, fun k hk hne => (hg.block k (Nat.lt_of_lt_of_le hk h.size) (fun e => by have := hx k e.symm; omega)).trans (h.block k hk hne)⟩
theorem grown_then {v w w' : World} {row : Option Nat} (h : v.grownBy w row) (hb : Below w.heap.size w w') : v.grownBy w' row :=
 ⟨hb.os.trans h.os, hb.tape.trans h.tape, hb.output.trans h.output, Nat.le_trans h.size hb.size, fun k hk hne => (hb.block k (Nat.lt_of_lt_of_le hk h.size)).trans (h.block k hk hne)⟩
theorem grown_join {v w w' : World} {g : Nat} (h : v.grownBy w (some g)) (hg : w.grownBy w' (some g)) : v.grownBy w' (some g) := h.trans hg
theorem false_of {a b : Bool} (h : a = true → b = true) (hb : b = false) : a = false := Bool.eq_false_iff.2 fun e => by rw [h e] at hb; cases hb

end Go.Proofs.YtphaeegbmfpcgaaGreatDoor
