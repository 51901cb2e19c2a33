/- The walk of the dependencies of an element in pom's reader; the conditions stand in the theorem. -/
import Derived.Test.YtphaeegbmfpcgaaGreatDoorFB15
import Derived.Defers
import Derived.Recover
import Derived.Laws.Pointers
import Derived.Test.YtphaeegbmfpcgaaGreatDoorFB01
import Derived.Test.YtphaeegbmfpcgaaGreatDoorFB11

namespace Go.Proofs.YtphaeegbmfpcgaaGreatDoor
open Go Go.RowKit

theorem info_depQ : (Tryz.prog.info? 171).map (fun i => (i.zero, i.size, i.bytes)) = some (some (.agg #[.string ⟨#[]⟩, .string ⟨#[]⟩, .string ⟨#[]⟩, .string ⟨#[]⟩, .string ⟨#[]⟩, .int .i64 0, .int .i64 0, .slice none 0 0]), 8, 120) := by kernel_rfl
theorem depC_len8 (x : Dep × Value) : (depC x).length = 8 := rfl
theorem own_kinds {α β : Type} {b1 b2 E1 E2 n1 n2 : Nat} {C1 : α → List Value} {C2 : β → List Value} {w : World} {v1 v2 : Value} {l1 : List α} {l2 : List β} (h1 : Owns b1 E1 n1 C1 w v1 l1) (h2 : Owns b2 E2 n2 C2 w v2 l2) (hE : E1 ≠ E2) : v1.ownBlock = none ∨ v1.ownBlock ≠ v2.ownBlock := by
 rcases h1.2 with ⟨rfl, -⟩ | ⟨g1, c1, u1, rfl, -, hg1, -⟩
 · exact .inl rfl
 · right
   rcases h2.2 with ⟨rfl, -⟩ | ⟨g2, c2, u2, rfl, -, hg2, -⟩
   · simp [Value.ownBlock]
   · intro e
     simp only [Value.ownBlock, Option.some.injEq] at e
     subst e
     rw [hg1] at hg2
     simp only [Option.some.injEq, Obj.cells.injEq] at hg2
     exact hE hg2.2.1
theorem dep_one {base n : Nat} {w : World} {d : Dep} {x : Value} {l : List Id} {T : TypeId} (h : Owns base T n idC w x l) : ∀ u ∈ depC (d, x), u.oneCell' = true := by
 obtain ⟨a, c, rfl⟩ := h.shape
 intro u hu
 simp only [depC, List.mem_cons, List.not_mem_nil, or_false] at hu
 rcases hu with rfl | rfl | rfl | rfl | rfl | rfl | rfl | rfl <;> rfl
theorem dep_lit (y : Dep × Value) (W : World) (H : Nat) (hH : W.heap.size = H) : SliceOf 8 depC (W.alloc (.cells (depC y).toArray 171)) (.slice (some ⟨H, 0, none⟩) 1 1) [y] := by
 have h := sliceLit depC_len8 W [y] 171 H 1 hH rfl (by unfold maxLen; simp)
 simpa using h
/-- A row of dependencies of the call's own, with their exclusions. -/
structure DepsOwn (base : Nat) (w : World) (v : Value) (ds : List Dep) (L : List (Dep × Value)) : Prop where
 row : Owns base 171 8 depC w v L
 are : L.map (·.1) = ds
 excl : ∀ p ∈ L, Owns base 24 2 idC w p.2 p.1.excl
theorem DepsOwn.below {base : Nat} {w w' : World} {v : Value} {ds : List Dep} {L : List (Dep × Value)} (h : DepsOwn base w v ds L) (hb : Below w.heap.size w w') : DepsOwn base w' v ds L :=
 ⟨h.row.below hb, h.are, fun p hp => (h.excl p hp).below hb⟩
theorem DepsOwn.base_mono {base B : Nat} {w : World} {v : Value} {ds : List Dep} {L : List (Dep × Value)} (h : DepsOwn base w v ds L) (hb : B ≤ base) : DepsOwn B w v ds L :=
 ⟨h.row.base_mono hb, h.are, fun p hp => (h.excl p hp).base_mono hb⟩
theorem DepsOwn.nil (base : Nat) (w : World) : DepsOwn base w (.slice none 0 0) [] [] := ⟨Owns.nil, rfl, by simp⟩
/-- Beside a block that is none of the rows. -/
theorem DepsOwn.keptR {base : Nat} {w w' : World} {v : Value} {ds : List Dep} {L : List (Dep × Value)} {r : Nat} (h : DepsOwn base w v ds L) (hg : w.grownBy w' (some r)) (hr : r < base) : DepsOwn base w' v ds L :=
 ⟨h.row.keptR hg hr, h.are, fun p hp => (h.excl p hp).keptR hg hr⟩
def DepsP (w : World) (l : List Dep) (e : Ending) (w' : World) : Prop := ∃ v L, e = .returned v ∧ DepsOwn w.heap.size w' v l L
set_option maxRecDepth 100000 in
set_option maxHeartbeats 16000000 in
theorem depsQ_any (m : Bool) (t : Tr) (wh : Bs) (w : World) (av kv : Value) (ht : NodeOf w t av kv) (hm : MildW t) (hl : wh.length ≤ 1000000000) :
    Calls Tryz.prog 89 #[elemV t av kv wh, .bool m] w (Ret (depsE m t wh) (DepsP w (depsV t)) w) := by
 obtain ⟨ao, ac, ko, kc, rfl, rfl, hal, -⟩ := ht.shape
 have HF : Hid (∀ W, Below w.heap.size w W → Calls Tryz.prog 85 #[elemV t (.slice ao t.attrs.length ac) (.slice ko t.kids.length kc) wh, .string ⟨#[100, 101, 112, 101, 110, 100, 101, 110, 99, 105, 101, 115]⟩] W (Ret (manyE t wh bDependencies) (FieldP wh bDependencies (oneV t bDependencies)) W)) := fun W h => field_any t wh bDependencies W _ _ (ht.later h) hm.kl (by show _ + 12 ≤ _; omega)
 have HM := Lib.hid hm
 have HE : Hid (depsE m t wh = (manyE t wh bDependencies).or (match oneV t bDependencies with
  | none => none
  | some f => (bigE (kidsF bDependency f.kids).length (sl wh bDependencies)).or (eachE (depE m) (sl (sl wh bDependencies) bDependency) (kidsF bDependency f.kids) 0))) := rfl
 have HV : Hid (depsV t = match oneV t bDependencies with
  | none => []
  | some f => (kidsF bDependency f.kids).map depV) := rfl
 obtain ⟨E, hE⟩ : ∃ E, E = depsE m t wh := ⟨_, rfl⟩
 obtain ⟨V, hV⟩ : ∃ V, V = depsV t := ⟨_, rfl⟩
 rw [← hE] at HE ⊢
 rw [← hV] at HV ⊢
 clear hE hV ht hm
 obtain ⟨X, hX⟩ : ∃ X : S, X = bs wh := ⟨_, rfl⟩
 obtain ⟨Y, hY⟩ : ∃ Y : S, Y = bs (sl wh bDependencies) := ⟨_, rfl⟩
 have HWL : Hid (wh.length ≤ 1000000000) := hl
 unfold elemV at HF ⊢
 rw [← hX] at HF ⊢
 clear hX hl
 go_enter Tryz.func89, Tryz.ntmps89
 go_upto_region 1 with fail
 refine wp_world ?_
 intro W hW
 have x1 : Box W w.heap.size [.string (bs t.name), .slice ao t.attrs.length ac, .slice ko t.kids.length kc, .string (bs t.text), .string X] := by rw [hW]; exact Box.new w [.string (bs t.name), .slice ao t.attrs.length ac, .slice ko t.kids.length kc, .string (bs t.text), .string X] _ _ rfl
 have hb : Below w.heap.size w W := by rw [hW]; exact (Below.refl _ w).alloc (Nat.le_refl _) _
 clear hW
 have HX1 := Lib.hid x1
 have HB := Lib.hid hb
 clear x1 hb
 obtain ⟨a0, a1, a2, a3, a4⟩ := bxc5 HX1.out
 have al := HX1.out.lt
 go_wp2_with fail
 refine (HF.out _ HB.out).mono ?_
 rintro e w1 ⟨hb1, hp, hq⟩
 have HB1 := Lib.hid (HB.out.trans (hb1.mono HB.out.size))
 clear a0 a1 a2 a3 a4 al HF HX1 hb1
 cases hM : manyE t wh bDependencies with
 | some x =>
  obtain rfl := hp x hM
  have HR : Hid (E = some x) := by show _ = _; rw [HE.out, hM]; rfl
  clear hp hq hM HE HV
  unfold panE
  go_wp2
  exact ⟨rfl, Ret.bad HR.out HB1.out rfl⟩
 | none =>
  have hq := hq hM
  rw [hM, Option.none_or] at HE
  clear hp hM
  cases hO : oneV t bDependencies with
  | none =>
   rw [hO] at HE HV hq
   simp only [FieldP, FieldX] at hq
   rw [← hY] at hq
   subst hq
   have HVE : Hid (V = []) := HV.out
   have HR : Hid (E = none) := HE.out
   clear hO HV hY HE
   have HB2 : Hid (∀ o, Below w.heap.size w (w1.alloc o)) := fun o => HB1.out.alloc HB1.out.size o
   go_wp2
   go_ret
   refine Ret.good HR.out (HB2.out _) ⟨_, [], rfl, ?_⟩
   rw [HVE.out]
   exact DepsOwn.nil _ _
  | some k =>
   rw [hO] at HE HV hq
   obtain ⟨av2, kv2, rfl, hn⟩ := hq
   obtain ⟨p1, p2, p3, p4, rfl, rfl, -, -⟩ := hn.shape
   have hmk := HM.out.one hO
   obtain ⟨K, hK⟩ : ∃ K, K = kidsF bDependency k.kids := ⟨_, rfl⟩
   have HVE : Hid (V = K.map depV) := by rw [hK]; exact HV.out
   obtain ⟨WK, hWK⟩ : ∃ WK, WK = sl (sl wh bDependencies) bDependency := ⟨_, rfl⟩
   have HWZ : Hid (WK.length ≤ 1000000100) := by
    show _ ≤ _
    rw [hWK]; have h1 : bDependencies.length = 12 := rfl; have h2 : bDependency.length = 10 := rfl; have h3 := HWL.out; unfold sl; simp only [List.length_append, List.length_cons]; omega
   have HER : Hid (E = (bigE K.length (sl wh bDependencies)).or (eachE (depE m) WK K 0)) := by rw [hK, hWK]; exact HE.out
   have HLI : Hid (∀ W, Below w1.heap.size w1 W → Calls Tryz.prog 133 #[.agg #[.string (bs k.name), .slice p1 k.attrs.length p2, .slice p3 k.kids.length p4, .string (bs k.text), .string Y], .string ⟨#[100, 101, 112, 101, 110, 100, 101, 110, 99, 121]⟩] W (Ret (bigE K.length (sl wh bDependencies)) (ListP (fun _ => False) W (elsQ WK K 0)) W)) := fun W h => by
    rw [hK, hY, hWK]
    exact listQ_any (fun _ => False) k (sl wh bDependencies) bDependency W _ _ (hn.later h) hmk.kl (by have h1 : bDependencies.length = 12 := rfl; have h2 : bDependency.length = 10 := rfl; have h3 := HWL.out; unfold sl; simp only [List.length_append, List.length_cons]; omega)
   have HMK : Hid (∀ y ∈ K, MildW y) := fun y hy => hmk.kids y (kidsF_sub (by rw [← hK]; exact hy))
   clear HE HV hO hn hmk hK hWK
   unfold elemV
   rw [← hY]
   clear hY
   go_upto_region 4 with fail
   refine wp_world ?_
   intro W2 hW2
   have x2 : Box W2 w1.heap.size [.string (bs k.name), .slice p1 k.attrs.length p2, .slice p3 k.kids.length p4, .string (bs k.text), .string Y] := by rw [hW2]; exact Box.new w1 [.string (bs k.name), .slice p1 k.attrs.length p2, .slice p3 k.kids.length p4, .string (bs k.text), .string Y] _ _ rfl
   have hb12 : Below w1.heap.size w1 W2 := by rw [hW2]; exact (Below.refl _ w1).alloc (Nat.le_refl _) _
   clear hW2
   have HX2 := Lib.hid x2
   have HB12 := Lib.hid hb12
   have HB2 := Lib.hid (HB1.out.trans (hb12.mono HB1.out.size))
   clear x2 hb12
   obtain ⟨a0, a1, a2, a3, a4⟩ := bxc5 HX2.out
   have al := HX2.out.lt
   go_wp2_with fail
   refine (HLI.out _ HB12.out).mono ?_
   rintro e w3 ⟨hb3, hp, hq⟩
   have HB3 := Lib.hid (HB2.out.trans (hb3.mono HB2.out.size))
   clear a0 a1 a2 a3 a4 al hb3 HLI HX2
   rcases hM : bigE K.length (sl wh bDependencies) with _ | x
   rotate_left
   · obtain rfl := hp x hM
     have HR : Hid (E = some x) := by show _ = _; rw [HER.out, hM]; rfl
     clear hp hq hM HER HVE
     unfold panE
     go_wp2
     exact ⟨rfl, Ret.bad HR.out HB3.out rfl⟩
   obtain ⟨v, O, rfl, hOe, hOo, hOn⟩ := hq hM
   have HKB : Hid (K.length ≤ 1024) := by
    show _ ≤ _
    unfold bigE at hM
    split at hM
    · cases hM
    · omega
   have HRE0 : Hid (E = eachE (depE m) WK K 0) := by show _ = _; rw [HER.out, hM]; rfl
   have hOl : O.length = K.length := by
    have h1 := congrArg List.length hOe
    rw [List.length_map, elsQ_len] at h1
    exact h1
   have hOs := hOo.slice elC_len
   obtain ⟨la, lc, rfl⟩ := hOo.shape
   have HOS := Lib.hid hOs
   have HOE := Lib.hid hOe
   have HON : Hid (∀ y ∈ O, NodeOf w3 y.1.1 y.1.2.1 y.1.2.2) := fun y hy => (hOn y hy).node
   have HOL := Lib.hid hOl
   rw [hOl]
   clear hp hq hM HER hOl hOo hOs hOe hOn
   go_wp2
   go_loopw [4, 19] (fun v iv wr => ∃ (n : Nat) (oa : Option Addr) (oc : Nat) (L : List (Dep × Value)), n ≤ K.length ∧ iv = .int .i64 n ∧ v = .slice oa n oc ∧ Hid (Below w3.heap.size w3 wr ∧ DepsOwn w3.heap.size wr (.slice oa n oc) ((K.take n).map depV) L ∧ E = eachE (depE m) WK (K.drop n) n)) (fun _ iv _ => K.length - (intOf iv).toNat)
   case atStart => exact ⟨0, none, 0, [], Nat.zero_le _, rfl, rfl, Below.refl _ _, DepsOwn.nil _ _, HRE0.out⟩
   case round =>
    obtain ⟨n, oa, oc, L, hk, rfl, rfl, HRR⟩ := hrel
    by_cases hlt : n < K.length
    · have hb1r := HRR.out.1
      have hiL : n < O.length := by rw [HOL.out]; exact hlt
      have hy := congrArg (·[n]?) HOE.out
      simp only [List.getElem?_map, elsQ_get _ _ _ _ hlt, List.getElem?_eq_getElem hiL, Option.map_some, Option.some.injEq, Nat.zero_add] at hy
      obtain ⟨g, o1, hla, hg, hc⟩ := (HOS.out.below hb1r).at hiL
      subst hla
      have c0 : wr.cell? ⟨g, o1 + n * 5, none⟩ = some (.string (bs O[n].1.1.name)) := by simpa using hc 0 _ rfl
      have c1 := hc 1 _ rfl
      have c2 := hc 2 _ rfl
      have c3 := hc 3 _ rfl
      have c4 := hc 4 _ rfl
      have hn1 := (HON.out O[n] (List.getElem_mem hiL)).later hb1r
      have hsr := hb1r.size
      clear hc hb1r
      generalize O[n] = y at *
      obtain ⟨⟨t1, ya, yk⟩, wy⟩ := y
      simp only [Prod.mk.injEq] at hy c0 c1 c2 c3 c4 hn1
      obtain ⟨hy1, rfl⟩ := hy
      obtain ⟨q1, q2, q3, q4, rfl, rfl, -, -⟩ := hn1.shape
      have HTK := Lib.hid (by rw [List.take_succ_eq_append_getElem hlt, ← hy1] : K.take (n + 1) = K.take n ++ [t1])
      have HMY := Lib.hid (HMK.out t1 (by rw [hy1]; exact List.getElem_mem hlt))
      have HRE := Lib.hid (by rw [HRR.out.2.2, eachE_at hlt, ← hy1] : E = (depE m t1 (atI WK (n + 1))).or (eachE (depE m) WK (K.drop (n + 1)) (n + 1)))
      obtain ⟨Z, hZ⟩ : ∃ Z : S, Z = bs (atI WK (n + 1)) := ⟨_, rfl⟩
      have HDP : Hid (∀ W, Below wr.heap.size wr W → Calls Tryz.prog 134 #[.agg #[.string (bs t1.name), .slice q1 t1.attrs.length q2, .slice q3 t1.kids.length q4, .string (bs t1.text), .string Z], .bool m] W (Ret (depE m t1 (atI WK (n + 1))) (DepP W (depV t1)) W)) := fun W h => by
       rw [hZ]
       exact depQ_any m t1 (atI WK (n + 1)) W _ _ (hn1.later h) HMY.out (by have h1 := numP_len (n + 1); have h2 := HKB.out; have h3 := HWZ.out; unfold atI; simp only [List.length_append, List.length_cons, List.length_nil]; omega)
      have hki : (n : Int) < (K.length : Int) := by omega
      have hn24 : n < 1024 := by have := HKB.out; omega
      rw [← hZ] at c4
      clear hy1 hn1 hZ
      go_upto_region 7 with fail
      refine wp_world ?_
      intro W7 hW7
      have x7 : Box W7 wr.heap.size [.string (bs t1.name), .slice q1 t1.attrs.length q2, .slice q3 t1.kids.length q4, .string (bs t1.text), .string Z] := by rw [hW7]; exact Box.new wr [.string (bs t1.name), .slice q1 t1.attrs.length q2, .slice q3 t1.kids.length q4, .string (bs t1.text), .string Z] _ _ rfl
      have hb7 : Below wr.heap.size wr W7 := by rw [hW7]; exact (Below.refl _ wr).alloc (Nat.le_refl _) _
      clear hW7 c0 c1 c2 c3 c4
      have HX7 := Lib.hid x7
      have HB7 := Lib.hid hb7
      clear x7 hb7
      obtain ⟨c0, c1, c2, c3, c4⟩ := bxc5 HX7.out
      have cl := HX7.out.lt
      go_wp2_with fail
      refine (HDP.out _ HB7.out).mono ?_
      rintro e w8 ⟨hb8, hp, hq⟩
      have HB8 := Lib.hid (HB7.out.trans (hb8.mono HB7.out.size))
      have HZ8 := Lib.hid hb8.size
      clear c0 c1 c2 c3 c4 cl hb8 HX7 HDP
      rcases hM : depE m t1 (atI WK (n + 1)) with _ | x
      rotate_left
      · obtain rfl := hp x hM
        have HR : Hid (E = some x) := by show _ = _; rw [HRE.out, hM]; rfl
        clear hp hq hM HRE HVE
        unfold panE
        go_wp2
        exact ⟨rfl, Ret.bad HR.out (HB3.out.trans ((HRR.out.1.trans (HB8.out.mono hsr)).mono HB3.out.size)) rfl⟩
      obtain ⟨xv, rfl, hxo⟩ := hq hM
      have HEN : Hid (E = eachE (depE m) WK (K.drop (n + 1)) (n + 1)) := by show _ = _; rw [HRE.out, hM]; rfl
      have HXO : Hid (Owns w3.heap.size 24 2 idC w8 xv (depV t1).excl) := hxo.base_mono (Nat.le_trans hsr HB7.out.size)
      have HO8 := Lib.hid (HRR.out.2.1.below HB8.out)
      have HLN : Hid (L.length = n) := by
       have h1 := congrArg List.length HRR.out.2.1.are
       rw [List.length_map, List.length_map, List.length_take] at h1
       show _ = _
       omega
      have HLIT := Lib.hid (dep_lit (depV t1, xv) w8 w8.heap.size rfl)
      have HONE := Lib.hid (dep_one (d := depV t1) HXO.out)
      have HHB : Hid (w3.heap.size ≤ w8.heap.size) := Nat.le_trans hsr HB8.out.size
      clear hp hq hM HRE hxo
      simp only [depC]
      simp only [depC] at HLIT
      generalize hdv : depV t1 = dv at *
      have HDV := Lib.hid hdv
      clear hdv
      go_wp2_with (at_builtin; refine wpList_append_slice _ rfl _ _ 46 rfl w3.heap.size 171 Tryz.underlying46 info_depQ rfl (by decide) depC_len8 (.slice oa n oc) L rfl (HO8.out.row.alloc _) _ [(dv, xv)] rfl HLIT.out (fun y hy => by obtain rfl := List.mem_singleton.1 hy; exact HONE.out) (by have h1 := HLN.out; have h2 := HKB.out; simp only [List.length_cons, List.length_nil]; omega) (by decide) (by have h1 := HHB.out; simp; omega) ?_; intro v9 w9 hown9 hgrow9 hloc9; have HO9 := Lib.hid hown9; have HG9 := Lib.hid hgrow9; clear hown9 hgrow9 hloc9; obtain ⟨a9, c9, rfl⟩ := HO9.out.shape; have he9 : (L ++ [(dv, xv)]).length = n + 1 := (by rw [List.length_append, HLN.out]; rfl); rw [he9] at HO9 ⊢; clear he9)
      go_roundw
      case rel =>
       have h1 := HRR.out
       have hal := (Below.refl w8.heap.size w8).alloc (Nat.le_refl _) (.cells (depC (dv, xv)).toArray 171)
       have ho8 := HO8.out.below hal
       refine ⟨n + 1, a9, c9, L ++ [(dv, xv)], hlt, by go_num, rfl, ?_, ⟨HO9.out, ?_, ?_⟩, HEN.out⟩
       · exact below_thenQ (h1.1.trans ((HB8.out.trans (hal.mono HB8.out.size)).mono hsr)) (Nat.le_refl _) HG9.out (fun g hg => (ho8.row.lt g hg).1)
       · rw [List.map_append, HO8.out.are, HTK.out, List.map_append, List.map_cons, List.map_nil, List.map_cons, List.map_nil, HDV.out]
       · intro p hp
         rcases List.mem_append.1 hp with hp | hp
         · exact (ho8.excl p hp).kept HG9.out (own_kinds (ho8.excl p hp) ho8.row (by decide))
         · obtain rfl := List.mem_singleton.1 hp
           exact (HXO.out.below hal).kept HG9.out (own_kinds (HXO.out.below hal) ho8.row (by decide))
      case measure => simp [intOf]; omega
    · obtain rfl : n = K.length := by omega
      go_wp2
      go_ret
      have h1 := HRR.out
      have hEN : E = none := by rw [h1.2.2, List.drop_length]; rfl
      refine Ret.good hEN (HB3.out.trans (h1.1.mono HB3.out.size)) ⟨_, L, rfl, ?_⟩
      rw [HVE.out]
      have h2 := h1.2.1
      rw [List.take_length] at h2
      exact h2.base_mono HB3.out.size

end Go.Proofs.YtphaeegbmfpcgaaGreatDoor

/- The closure that pom.Read defers; the conditions stand in the theorems. -/
namespace Go.Proofs.YtphaeegbmfpcgaaGreatDoor
open Go Go.RowKit

theorem setp_box {w : World} {b : Nat} {p0 p1 p2 p3 p4 p5 p6 p7 p8 p9 p10 : Value} (h : Box w b [p0, p1, p2, p3, p4, p5, p6, p7, p8, p9, p10]) : Box (((((((((((w.setCell ⟨b, 0, none⟩ (.bool false)).setCell ⟨b, 1, none⟩ (.string ⟨#[]⟩)).setCell ⟨b, 2, none⟩ (.string ⟨#[]⟩)).setCell ⟨b, 3, none⟩ (.string ⟨#[]⟩)).setCell ⟨b, 4, none⟩ (.string ⟨#[]⟩)).setCell ⟨b, 5, none⟩ (.string ⟨#[]⟩)).setCell ⟨b, 6, none⟩ (.string ⟨#[]⟩)).setCell ⟨b, 7, none⟩ (.string ⟨#[]⟩)).setCell ⟨b, 8, none⟩ (.slice none 0 0)).setCell ⟨b, 9, none⟩ (.slice none 0 0)).setCell ⟨b, 10, none⟩ (.slice none 0 0)) b [.bool false, .string ⟨#[]⟩, .string ⟨#[]⟩, .string ⟨#[]⟩, .string ⟨#[]⟩, .string ⟨#[]⟩, .string ⟨#[]⟩, .string ⟨#[]⟩, .slice none 0 0, .slice none 0 0, .slice none 0 0] :=
 (((((((((((h.set 0 _).set 1 _).set 2 _).set 3 _).set 4 _).set 5 _).set 6 _).set 7 _).set 8 _).set 9 _).set 10 _)
theorem setp_grown (w : World) (b : Nat) : w.grownBy (((((((((((w.setCell ⟨b, 0, none⟩ (.bool false)).setCell ⟨b, 1, none⟩ (.string ⟨#[]⟩)).setCell ⟨b, 2, none⟩ (.string ⟨#[]⟩)).setCell ⟨b, 3, none⟩ (.string ⟨#[]⟩)).setCell ⟨b, 4, none⟩ (.string ⟨#[]⟩)).setCell ⟨b, 5, none⟩ (.string ⟨#[]⟩)).setCell ⟨b, 6, none⟩ (.string ⟨#[]⟩)).setCell ⟨b, 7, none⟩ (.string ⟨#[]⟩)).setCell ⟨b, 8, none⟩ (.slice none 0 0)).setCell ⟨b, 9, none⟩ (.slice none 0 0)).setCell ⟨b, 10, none⟩ (.slice none 0 0)) (some b) :=
 (((((((((((setCell_grown _ _ _ _).trans (setCell_grown _ _ _ _)).trans (setCell_grown _ _ _ _)).trans (setCell_grown _ _ _ _)).trans (setCell_grown _ _ _ _)).trans (setCell_grown _ _ _ _)).trans (setCell_grown _ _ _ _)).trans (setCell_grown _ _ _ _)).trans (setCell_grown _ _ _ _)).trans (setCell_grown _ _ _ _)).trans (setCell_grown _ _ _ _))
set_option maxRecDepth 100000 in
set_option maxHeartbeats 4000000 in
theorem readCatch_idle (a b c : Addr) (w : World) :
    CallsD Tryz.prog 83 #[.pointer (some a), .pointer (some b), .pointer (some c)] .returning w fun e u' w' => e = .returned (.tuple #[]) ∧ u' = .returning ∧ w' = w := by
 refine callsD_of_wpS Tryz.func83 rfl fun c₀ cs hu => ?_
 apply wpS_seq
 apply wpS_region
 simp [wpOpsS, go_sem, recoverD, hu, Tryz.ntmps83, Exit.thenS]
 refine wpS_of_wp ?_
 have ht : ∀ a b c v : Value, (#[a, b, c] ++ (Array.replicate 14 undef).setIfInBounds 3 v : Array Value) = #[a, b, c, undef, undef, undef, v, undef, undef, undef, undef, undef, undef, undef, undef, undef, undef] := fun _ _ _ _ => rfl
 rw [ht]
 clear ht
 go_wp2
 refine ⟨rfl, .returning, ?_, .tuple #[], by simp [results, Tryz.results83, go_sem], rfl, rfl, rfl⟩
 cases c₀
 simp_all
theorem assert_faultQ (x : Int) (s : S) (w : World) : (Instr.typeAssert (.iface 161 (.agg #[.int .i64 x, .string s])) 20 161 true).run Tryz.prog w = .ok (.tuple #[.agg #[.int .i64 x, .string s], .bool true]) w := by kernel_rfl
def rcUpd (N : Nat) (x : Er) (x0 x1 x2 x3 x4 x5 x6 x7 x8 x9 x10 x11 : Value) (f0 f1 f2 f3 f4 _f5 _f6 _f7 : Bool)  : Act :=
 ⟨#[x0, x1, x2, x3, x4, x5, x6, x7, x8, x9, x10, x11, cond f0 (.agg #[.bool false, .string ⟨#[]⟩, .string ⟨#[]⟩, .string ⟨#[]⟩, .string ⟨#[]⟩, .string ⟨#[]⟩, .string ⟨#[]⟩, .string ⟨#[]⟩, .slice none 0 0, .slice none 0 0, .slice none 0 0]) undef, cond f1 (.pointer (some ⟨N, 0, none⟩)) undef, cond f2 (.int .i64 x.1) undef, cond f3 (.pointer (some ⟨N, 1, none⟩)) undef, cond f4 (.string (bs x.2)) undef], []⟩
def rcJ (B N : Nat) (x : Er) (p0 p1 p2 p3 p4 p5 p6 p7 p8 p9 p10 v2 v3 : Value) (V : World) (x0 x1 x2 x3 x4 x5 x6 x7 x8 x9 x10 x11 : Value) (listed : Array Bool) (atx : Act) (w' : World) : Prop :=
 ∃ (f0 f1 f2 f3 f4 f5 f6 f7 : Bool) , listed = #[f0, f1, f2, f3, f4, f5, f6, f7] ∧ atx = rcUpd N x x0 x1 x2 x3 x4 x5 x6 x7 x8 x9 x10 x11 f0 f1 f2 f3 f4 f5 f6 f7  ∧ Hid (f6 = true → f5 = true) ∧ Hid (f7 = true → f6 = true) ∧ Box w' N [.int .i64 x.1, .string (bs x.2)] ∧ (f5 = false → Box w' (B + 1) [p0, p1, p2, p3, p4, p5, p6, p7, p8, p9, p10]) ∧ (f5 = true → Box w' (B + 1) [.bool false, .string ⟨#[]⟩, .string ⟨#[]⟩, .string ⟨#[]⟩, .string ⟨#[]⟩, .string ⟨#[]⟩, .string ⟨#[]⟩, .string ⟨#[]⟩, .slice none 0 0, .slice none 0 0, .slice none 0 0]) ∧ (f6 = false → Box w' (B + 2) [v2]) ∧ (f6 = true → Box w' (B + 2) [.int .i64 x.1]) ∧ (f7 = false → Box w' (B + 3) [v3]) ∧ (f7 = true → Box w' (B + 3) [.string (bs x.2)]) ∧ Below (B + 1) V w'
set_option maxRecDepth 100000 in
set_option maxHeartbeats 8000000 in
theorem readCatch_panicking (B : Nat) (x : Er) (older : List PanicEntry) (p0 p1 p2 p3 p4 p5 p6 p7 p8 p9 p10 v2 v3 : Value) (w : World)
    (h1 : Box w (B + 1) [p0, p1, p2, p3, p4, p5, p6, p7, p8, p9, p10]) (h2 : Box w (B + 2) [v2]) (h3 : Box w (B + 3) [v3]) :
    CallsD Tryz.prog 83 #[.pointer (some ⟨B + 1, 0, none⟩), .pointer (some ⟨B + 2, 0, none⟩), .pointer (some ⟨B + 3, 0, none⟩)] (.panicking ({ v := faultQ x, recovered := false } :: older)) w fun e u' w' =>
     e = .returned (.tuple #[]) ∧ u' = .panicking ({ v := faultQ x, recovered := true } :: older) ∧ Box w' (B + 1) [.bool false, .string ⟨#[]⟩, .string ⟨#[]⟩, .string ⟨#[]⟩, .string ⟨#[]⟩, .string ⟨#[]⟩, .string ⟨#[]⟩, .string ⟨#[]⟩, .slice none 0 0, .slice none 0 0, .slice none 0 0] ∧ Box w' (B + 2) [.int .i64 x.1] ∧ Box w' (B + 3) [.string (bs x.2)] ∧ Below (B + 1) w w' := by
 refine callsD_of_wpS Tryz.func83 rfl fun c₀ cs hu => ?_
 apply wpS_seq
 apply wpS_region
 simp [wpOpsS, go_sem, recoverD, hu, Tryz.ntmps83, Exit.thenS]
 refine wpS_of_wp ?_
 have ht : ∀ a b c v : Value, (#[a, b, c] ++ (Array.replicate 14 undef).setIfInBounds 3 v : Array Value) = #[a, b, c, undef, undef, undef, v, undef, undef, undef, undef, undef, undef, undef, undef, undef, undef] := fun _ _ _ _ => rfl
 rw [ht]
 clear ht
 simp only [faultQ]
 have hta := assert_faultQ x.1 (bs x.2)
 have H0 := Lib.hid (And.intro h1 (And.intro h2 h3))
 have l3 := h3.lt
 clear h1 h2 h3
 go_upto_region 7 with fail
 refine wp_world ?_
 intro W hW
 have hF : Box W w.heap.size [.int .i64 x.1, .string (bs x.2)] := by rw [hW]; exact Box.new w _ _ _ rfl
 have hbW : Below w.heap.size w W := by rw [hW]; exact (Below.refl _ _).alloc (Nat.le_refl _) _
 clear hW hta
 have K1 := Lib.hid (H0.out.1.below hbW H0.out.1.lt)
 have K2 := Lib.hid (H0.out.2.1.below hbW H0.out.2.1.lt)
 have K3 := Lib.hid (H0.out.2.2.below hbW H0.out.2.2.lt)
 have KF := Lib.hid hF
 have HBW := Lib.hid hbW
 clear hF hbW H0
 refine wp_region_flags0 (rcJ B w.heap.size x p0 p1 p2 p3 p4 p5 p6 p7 p8 p9 p10 v2 v3 W _ _ _ _ _ _ _ _ _ _ _ _) (by kernel_rfl) 8 rfl (by kernel_rfl) ⟨false, false, false, false, false, false, false, false, rfl, rfl, Lib.hid (by simp), Lib.hid (by simp), ⟨KF.out.lt, KF.out.cell, KF.out.free⟩, fun _ => ⟨K1.out.lt, K1.out.cell, K1.out.free⟩, by simp, fun _ => ⟨K2.out.lt, K2.out.cell, K2.out.free⟩, by simp, fun _ => ⟨K3.out.lt, K3.out.cell, K3.out.free⟩, by simp, belowN (Below.refl _ _) 1⟩ ?fin ?step
 case fin =>
  rintro a' w' ⟨f0, f1, f2, f3, f4, f5, f6, f7, hl, rfl, a6, a7, hF, p0, p1, e0, e1, h0, h1, hB⟩
  have hl' : [true, true, true, true, true, true, true, true] = [f0, f1, f2, f3, f4, f5, f6, f7] := congrArg Array.toList hl
  simp only [List.cons.injEq, and_true] at hl'
  obtain ⟨rfl, rfl, rfl, rfl, rfl, rfl, rfl, rfl⟩ := hl'
  unfold rcUpd
  simp only [cond_true]
  have z1 := p1 rfl
  have z2 := e1 rfl
  have z3 := h1 rfl
  exact ⟨rfl, _, rfl, .tuple #[], by simp [results, Tryz.results83, go_sem], rfl, rfl, z1, z2, z3, (HBW.out.mono (by omega)).trans hB⟩
 case step =>
  rintro listed a' w' ⟨f0, f1, f2, f3, f4, f5, f6, f7, rfl, rfl, a6, a7, hF, p0, p1, e0, e1, h0, h1, hB⟩ i hi
  rw [mem_ready] at hi
  obtain ⟨hu, o, ho, ha⟩ := hi
  have hi8 : i < 8 := (Array.getElem?_eq_some_iff.1 ho).1
  rcases (by omega : i = 0 ∨ i = 1 ∨ i = 2 ∨ i = 3 ∨ i = 4 ∨ i = 5 ∨ i = 6 ∨ i = 7) with rfl | rfl | rfl | rfl | rfl | rfl | rfl | rfl
  · have ho' := ho
    simp at hu ho
    subst hu ho
    clear ha
    refine .inl ?_
    unfold rcUpd Oper.wp
    go_simp
    exact ⟨true, f1, f2, f3, f4, f5, f6, f7, rfl, rfl, a6, a7, hF, p0, p1, e0, e1, h0, h1, hB⟩
  · have ho' := ho
    simp at hu ho
    subst hu ho
    clear ha
    refine .inl ?_
    unfold rcUpd Oper.wp
    go_simp
    exact ⟨f0, true, f2, f3, f4, f5, f6, f7, rfl, rfl, a6, a7, hF, p0, p1, e0, e1, h0, h1, hB⟩
  · have ho' := ho
    simp at hu ho
    subst hu ho
    simp [Region.binds] at ha
    obtain rfl : f1 = true := by simp only [ha]
    clear ha
    have k0 := hF.cell 0 _ rfl
    refine .inl ?_
    unfold rcUpd Oper.wp
    go_simp
    exact ⟨f0, true, true, f3, f4, f5, f6, f7, rfl, rfl, a6, a7, hF, p0, p1, e0, e1, h0, h1, hB⟩
  · have ho' := ho
    simp at hu ho
    subst hu ho
    clear ha
    refine .inl ?_
    unfold rcUpd Oper.wp
    go_simp
    exact ⟨f0, f1, f2, true, f4, f5, f6, f7, rfl, rfl, a6, a7, hF, p0, p1, e0, e1, h0, h1, hB⟩
  · have ho' := ho
    simp at hu ho
    subst hu ho
    simp [Region.binds] at ha
    obtain rfl : f3 = true := by simp only [ha]
    clear ha
    have k1 := hF.cell 1 _ rfl
    refine .inl ?_
    unfold rcUpd Oper.wp
    go_simp
    exact ⟨f0, f1, f2, true, true, f5, f6, f7, rfl, rfl, a6, a7, hF, p0, p1, e0, e1, h0, h1, hB⟩
  · have ho' := ho
    simp at hu ho
    subst hu ho
    simp [Region.binds] at ha
    obtain rfl : f0 = true := by simp only [ha]
    clear ha
    have e6 : f6 = false := false_of a6.out rfl
    subst e6
    have e7 : f7 = false := false_of a7.out rfl
    subst e7
    have hp := p0 rfl
    obtain ⟨c0, c1, c2, c3, c4, c5, c6, c7, c8, c9, c10⟩ := bxc11 hp
    have u0 := hp.free 0
    have u1 := hp.free 1
    have u2 := hp.free 2
    have u3 := hp.free 3
    have u4 := hp.free 4
    have u5 := hp.free 5
    have u6 := hp.free 6
    have u7 := hp.free 7
    have u8 := hp.free 8
    have u9 := hp.free 9
    have u10 := hp.free 10
    have hl := hp.lt
    have HPN := Lib.hid (setp_box hp)
    have HGR := Lib.hid (setp_grown w' (B + 1))
    clear hp
    refine .inl ?_
    unfold rcUpd Oper.wp
    go_simp
    exact ⟨true, f1, f2, f3, f4, true, false, false, rfl, rfl, Lib.hid (by simp), a7, hF.grown HGR.out (by simp; omega), by simp, fun _ => HPN.out, fun h => (e0 h).grown HGR.out (by simp), by simp, fun h => (h0 h).grown HGR.out (by simp), by simp, hB.trans (below_row HGR.out (Nat.le_refl _) (by have := hB.size; omega))⟩
  · have ho' := ho
    simp at hu ho
    subst hu ho
    simp [Region.binds] at ha
    obtain rfl : f2 = true := by simp only [ha]
    obtain rfl : f5 = true := by simp only [ha]
    clear ha
    have e7 : f7 = false := false_of a7.out rfl
    subst e7
    have hp := e0 rfl
    have c0 := hp.cell 0 _ rfl
    have u0 := hp.free 0
    have hl := hp.lt
    have HPN := Lib.hid (hp.set 0 (.int .i64 x.1))
    have HGR := Lib.hid (setCell_grown w' (B + 2) 0 (.int .i64 x.1))
    clear hp
    refine .inl ?_
    unfold rcUpd Oper.wp
    go_simp
    exact ⟨f0, f1, true, f3, f4, true, true, false, rfl, rfl, Lib.hid (by simp), Lib.hid (by simp), hF.grown HGR.out (by simp; omega), by simp, fun h => (p1 h).grown HGR.out (by simp), by simp, fun _ => HPN.out, fun h => (h0 h).grown HGR.out (by simp), by simp, hB.trans (below_row HGR.out (by omega) (by have := hB.size; omega))⟩
  · have ho' := ho
    simp at hu ho
    subst hu ho
    simp [Region.binds] at ha
    obtain rfl : f4 = true := by simp only [ha]
    obtain rfl : f6 = true := by simp only [ha]
    obtain rfl : f0 = true := by simp only [ha]
    obtain rfl : f1 = true := by simp only [ha]
    obtain rfl : f2 = true := by simp only [ha]
    obtain rfl : f3 = true := by simp only [ha]
    obtain rfl : f5 = true := by simp only [ha]
    clear ha
    have hp := h0 rfl
    have c0 := hp.cell 0 _ rfl
    have u0 := hp.free 0
    have hl := hp.lt
    have HPN := Lib.hid (hp.set 0 (.string (bs x.2)))
    have HGR := Lib.hid (setCell_grown w' (B + 3) 0 (.string (bs x.2)))
    clear hp
    refine .inl ?_
    unfold rcUpd Oper.wp
    go_simp
    exact ⟨true, true, true, true, true, true, true, true, rfl, rfl, a6, Lib.hid (by simp), hF.grown HGR.out (by simp; omega), by simp, fun h => (p1 h).grown HGR.out (by simp), by simp, fun h => (e1 h).grown HGR.out (by simp), by simp, fun _ => HPN.out, hB.trans (below_row HGR.out (by omega) (by have := hB.size; omega))⟩

end Go.Proofs.YtphaeegbmfpcgaaGreatDoor

/- pom.Read where a part is wrong: what its deferred closure makes of it; the parent's three words; the conditions stand in the theorems. -/

namespace Go.Proofs.YtphaeegbmfpcgaaGreatDoor
open Go Go.RowKit

/-- A project of the call's own. -/
structure PomOwn (base : Nat) (w : World) (p : Pom) (pv mv dv : Value) : Prop where
 props : Owns base 117 2 prpC w pv p.props
 managed : ∃ L, DepsOwn base w mv p.managed L
 deps : ∃ L, DepsOwn base w dv p.deps L
theorem PomOwn.below {base : Nat} {w w' : World} {p : Pom} {pv mv dv : Value} (h : PomOwn base w p pv mv dv) (hb : Below w.heap.size w w') : PomOwn base w' p pv mv dv :=
 ⟨h.props.below hb, let ⟨L, h1⟩ := h.managed; ⟨L, h1.below hb⟩, let ⟨L, h1⟩ := h.deps; ⟨L, h1.below hb⟩⟩
theorem PomOwn.base_mono {base B : Nat} {w : World} {p : Pom} {pv mv dv : Value} (h : PomOwn base w p pv mv dv) (hb : B ≤ base) : PomOwn B w p pv mv dv :=
 ⟨h.props.base_mono hb, let ⟨L, h1⟩ := h.managed; ⟨L, h1.base_mono hb⟩, let ⟨L, h1⟩ := h.deps; ⟨L, h1.base_mono hb⟩⟩
/-- What Read returns. -/
def ReadOut (t : Tr) (w : World) (e : Ending) (w' : World) : Prop := Below w.heap.size w w' ∧
 (∀ x, readE t = some x → e = .returned (.tuple #[.agg #[.bool false, .string ⟨#[]⟩, .string ⟨#[]⟩, .string ⟨#[]⟩, .string ⟨#[]⟩, .string ⟨#[]⟩, .string ⟨#[]⟩, .string ⟨#[]⟩, .slice none 0 0, .slice none 0 0, .slice none 0 0], .int .i64 x.1, .string (bs x.2)])) ∧
 (readE t = none → ∃ pv mv dv, e = .returned (.tuple #[.agg (pomC (readV t) pv mv dv).toArray, .int .i64 0, .string ⟨#[]⟩]) ∧ PomOwn w.heap.size w' (readV t) pv mv dv)
theorem size_pomQ : (Tryz.prog.info? 48).map (·.size) = some 11 := by kernel_rfl
theorem read_bad (t : Tr) (x : Er) (hx : readE t = some x) (w w2 : World) (p0 p1 p2 p3 p4 p5 p6 p7 p8 p9 p10 v2 v3 : Value) (tmps : Array Value) (ht2 : tmps.getD 2 undef = .pointer (some ⟨w.heap.size + 1, 0, none⟩)) (ht3 : tmps.getD 3 undef = .pointer (some ⟨w.heap.size + 2, 0, none⟩)) (ht4 : tmps.getD 4 undef = .pointer (some ⟨w.heap.size + 3, 0, none⟩))
    (h1 : Box w2 (w.heap.size + 1) [p0, p1, p2, p3, p4, p5, p6, p7, p8, p9, p10]) (h2 : Box w2 (w.heap.size + 2) [v2]) (h3 : Box w2 (w.heap.size + 3) [v3]) (hb : Below w.heap.size w w2) :
    Leaves Tryz.prog Tryz.f50 tmps (ReadOut t w) [{ target := .fn (.func 83) #[.pointer (some ⟨w.heap.size + 1, 0, none⟩), .pointer (some ⟨w.heap.size + 2, 0, none⟩), .pointer (some ⟨w.heap.size + 3, 0, none⟩)], args := #[] }] (.panicking [{ v := faultQ x, recovered := false }]) w2 := by
 refine leaves_cons (f := 83) (args := #[.pointer (some ⟨w.heap.size + 1, 0, none⟩), .pointer (some ⟨w.heap.size + 2, 0, none⟩), .pointer (some ⟨w.heap.size + 3, 0, none⟩)]) (by simp) (by simp [go_sem]) ?_
 refine (readCatch_panicking w.heap.size x [] _ _ _ _ _ _ _ _ _ _ _ _ _ w2 h1 h2 h3).mono ?_
 rintro e u' w3 ⟨rfl, rfl, hx1, hx2, hx3, hb3⟩
 have a2 := hx2.cell 0 _ rfl
 have a3 := hx3.cell 0 _ rfl
 have hB3 := hb.trans (hb3.mono (by omega))
 obtain ⟨b0, b1, b2, b3, b4, b5, b6, b7, b8, b9, b10⟩ := bxc11 hx1
 have ht2' : tmps[2]?.getD undef = .pointer (some ⟨w.heap.size + 1, 0, none⟩) := by simpa using ht2
 have ht3' : tmps[3]?.getD undef = .pointer (some ⟨w.heap.size + 2, 0, none⟩) := by simpa using ht3
 have ht4' : tmps[4]?.getD undef = .pointer (some ⟨w.heap.size + 3, 0, none⟩) := by simpa using ht4
 refine ⟨.tuple #[.agg #[.bool false, .string ⟨#[]⟩, .string ⟨#[]⟩, .string ⟨#[]⟩, .string ⟨#[]⟩, .string ⟨#[]⟩, .string ⟨#[]⟩, .string ⟨#[]⟩, .slice none 0 0, .slice none 0 0, .slice none 0 0], .int .i64 x.1, .string (bs x.2)], ?_, hB3, fun y hy => ?_, fun h => ?_⟩
 · simp [results, Tryz.results50, go_sem, a2, a3, b0, b1, b2, b3, b4, b5, b6, b7, b8, b9, b10, ht2', ht3', ht4', asAddr]
 · rw [hx] at hy; cases hy; rfl
 · rw [hx] at h; cases h

end Go.Proofs.YtphaeegbmfpcgaaGreatDoor

/- A store in memory: its four cells, its two maps, its projects, of each id the versions; what stays when other blocks turn; no program in sight but for types' numbers. -/

namespace Go.Proofs.YtphaeegbmfpcgaaGreatDoor
open Go Go.RowKit

structure Prob where
 err : Int
 gav : Gav
 off : Int
 line : Int
 col : Int
 whr : S
def probC (x : Prob) : List Value := [.int .i64 x.err, .string x.gav.group, .string x.gav.artifact, .string x.gav.version, .int .i64 x.off, .int .i64 x.line, .int .i64 x.col, .string x.whr]
def noS : S := ⟨#[]⟩
def gavZ : Gav := ⟨noS, noS, noS⟩
def probZ : Prob := ⟨0, gavZ, 0, 0, 0, noS⟩
def pomZ : Pom := ⟨false, gavZ, noS, noS, noS, noS, [], [], []⟩
structure SEnt where
 gav : Gav
 text : S
 done : Bool
 pom : Pom
 prob : Prob
def freshE (g : Gav) (s : S) : SEnt := ⟨g, s, false, pomZ, probZ⟩
def kGav (g : Gav) : Value := .agg (gavC g).toArray
def kId (x : Id) : Value := .agg (idC x).toArray
def idOf (g : Gav) : Id := ⟨g.group, g.artifact⟩
def ptr (b : Nat) : Value := .pointer (some ⟨b, 0, none⟩)
theorem Owns.moved {α : Type} {base : Nat} {E : TypeId} {n : Nat} {C : α → List Value} {w w' : World} {v : Value} {l : List α} (h : Owns base E n C w v l) (hk : ∀ k, base ≤ k → k < w.heap.size → w'.heap[k]? = w.heap[k]?) : Owns base E n C w' v l := by
 have hlt := h.lt
 obtain ⟨h1, h2⟩ := h
 refine ⟨h1, ?_⟩
 rcases h2 with h2 | ⟨g, cap, cur, rfl, hg, hc, h3⟩
 · exact .inl h2
 · exact .inr ⟨g, cap, cur, rfl, hg, (hk g hg (hlt g rfl).2).trans hc, h3⟩
theorem DepsOwn.moved {base : Nat} {w w' : World} {v : Value} {ds : List Dep} {L : List (Dep × Value)} (h : DepsOwn base w v ds L) (hk : ∀ k, base ≤ k → k < w.heap.size → w'.heap[k]? = w.heap[k]?) : DepsOwn base w' v ds L :=
 ⟨h.row.moved hk, h.are, fun p hp => (h.excl p hp).moved hk⟩
theorem PomOwn.moved {base : Nat} {w w' : World} {p : Pom} {pv mv dv : Value} (h : PomOwn base w p pv mv dv) (hk : ∀ k, base ≤ k → k < w.heap.size → w'.heap[k]? = w.heap[k]?) : PomOwn base w' p pv mv dv :=
 ⟨h.props.moved hk, let ⟨L, h1⟩ := h.managed; ⟨L, h1.moved hk⟩, let ⟨L, h1⟩ := h.deps; ⟨L, h1.moved hk⟩⟩
/-- A project that was read lies in blocks that the store does not write again. -/
def PomKept (F : Nat → Prop) (w : World) (p : Pom) (pv mv dv : Value) : Prop := ∃ w0 base, PomOwn base w0 p pv mv dv ∧ w0.heap.size ≤ w.heap.size ∧ ∀ k, base ≤ k → k < w0.heap.size → ¬ F k ∧ w.heap[k]? = w0.heap[k]?
theorem PomKept.own {F : Nat → Prop} {w : World} {p : Pom} {pv mv dv : Value} (h : PomKept F w p pv mv dv) : ∃ base, PomOwn base w p pv mv dv := by
 obtain ⟨w0, base, h1, h2, h3⟩ := h
 exact ⟨base, h1.moved fun k a b => (h3 k a b).2⟩
theorem PomKept.only {F G : Nat → Prop} {w w' : World} {p : Pom} {pv mv dv : Value} (h : PomKept F w p pv mv dv) (ho : Only F w w') (hG : ∀ k, k < w.heap.size → G k → F k) : PomKept G w' p pv mv dv := by
 obtain ⟨w0, base, h1, h2, h3⟩ := h
 refine ⟨w0, base, h1, Nat.le_trans h2 ho.size, fun k a b => ?_⟩
 have hk : k < w.heap.size := by omega
 exact ⟨fun e => (h3 k a b).1 (hG k hk e), (ho.block k hk (h3 k a b).1).trans (h3 k a b).2⟩
theorem PomKept.no (F : Nat → Prop) (w : World) : PomKept F w pomZ (.slice none 0 0) (.slice none 0 0) (.slice none 0 0) :=
 ⟨w, w.heap.size, ⟨Owns.nil, ⟨[], DepsOwn.nil _ _⟩, ⟨[], DepsOwn.nil _ _⟩⟩, Nat.le_refl _, fun k a b => by omega⟩
theorem PomKept.new {F : Nat → Prop} {w' : World} {p : Pom} {pv mv dv : Value} {base : Nat} (h : PomOwn base w' p pv mv dv) (hF : ∀ k, F k → k < base) : PomKept F w' p pv mv dv :=
 ⟨w', base, h, Nat.le_refl _, fun k a b => ⟨fun e => by have := hF k e; omega, rfl⟩⟩
/-- The cells of a project in a store. -/
def entC (e : SEnt) (pv mv dv : Value) : List Value := [.string e.text, .int .u32 (if e.done then 1 else 0), .int .i32 0, .int .u32 0] ++ pomC e.pom pv mv dv ++ probC e.prob
def EntryAt (F : Nat → Prop) (w : World) (b : Nat) (e : SEnt) : Prop := ∃ pv mv dv, Box w b (entC e pv mv dv) ∧ PomKept F w e.pom pv mv dv
theorem EntryAt.only {F G : Nat → Prop} {w w' : World} {b : Nat} {e : SEnt} (h : EntryAt F w b e) (ho : Only F w w') (hG : ∀ k, k < w.heap.size → G k → F k) (hb : w'.heap[b]? = w.heap[b]?) : EntryAt G w' b e := by
 obtain ⟨pv, mv, dv, h1, h2⟩ := h
 refine ⟨pv, mv, dv, ⟨Nat.lt_of_lt_of_le h1.lt ho.size, fun j u hu => (World.cell?_of_block hb).trans (h1.cell j u hu), fun j => (World.frozen?_of_block hb).trans (h1.free j)⟩, h2.only ho hG⟩
/-- Of an id the versions, as they were put. -/
def versOf (es : List (SEnt × Nat)) (x : Id) : List S := ((es.map fun e => e.1.gav).filter fun g => decide (idOf g = x)).map fun g => g.version
structure StoreIn (F : Nat → Prop) (w : World) (b me mv : Nat) (L : List (MEnt Gav)) (cl : Nat) (V : List (MEnt Id)) (cv : Nat) (es : List (SEnt × Nat)) (r a : Int) : Prop where
 box : Box w b [.map (some me), .map (some mv), .int .i64 r, .int .i64 a]
 ents : MMap kGav w me L cl
 vers : MMap kId w mv V cv
 same : L.map (fun e => (e.key, e.val)) = es.map fun e => (e.1.gav, ptr e.2)
 ent : ∀ e ∈ es, EntryAt F w e.2 e.1
 row : ∀ x, (mGet V x = none ∧ versOf es x = []) ∨ ∃ v, mGet V x = some v ∧ Owns 0 9 1 strC w v (versOf es x)
 rows : ∀ x v k, mGet V x = some v → v.ownBlock = some k → F k ∧ k ≠ b ∧ k ≠ me ∧ k ≠ mv ∧ ∀ e ∈ es, e.2 ≠ k
 apart : ∀ x y v u k, mGet V x = some v → mGet V y = some u → v.ownBlock = some k → u.ownBlock = some k → x = y
 own : F b ∧ F me ∧ F mv ∧ ∀ e ∈ es, F e.2
 lt : ∀ k, F k → k < w.heap.size
 ne : b ≠ me ∧ b ≠ mv ∧ me ≠ mv ∧ ∀ e ∈ es, e.2 ≠ b ∧ e.2 ≠ me ∧ e.2 ≠ mv
 each : (es.map (·.2)).Nodup
 once : (es.map fun e => e.1.gav).Nodup
def StoreAt (F : Nat → Prop) (w : World) (b : Nat) (es : List (SEnt × Nat)) (r a : Int) : Prop := ∃ me mv L cl V cv, StoreIn F w b me mv L cl V cv es r a
theorem StoreIn.only {F G : Nat → Prop} {w w' : World} {b me mv : Nat} {L : List (MEnt Gav)} {cl : Nat} {V : List (MEnt Id)} {cv : Nat} {es : List (SEnt × Nat)} {r a : Int} (h : StoreIn F w b me mv L cl V cv es r a) (ho : Only G w w') (hG : ∀ k, F k → ¬ G k)
    (hP : ∀ e ∈ es, EntryAt F w' e.2 e.1) : StoreIn F w' b me mv L cl V cv es r a :=
 ⟨h.box.only ho (hG _ h.own.1), h.ents.only ho (hG _ h.own.2.1), h.vers.only ho (hG _ h.own.2.2.1), h.same, hP,
  fun x => (h.row x).imp id fun ⟨v, h1, h2⟩ => ⟨v, h1, h2.only ho fun k hk => hG _ (h.rows x v k h1 hk).1⟩, h.rows, h.apart, h.own, fun k hk => Nat.lt_of_lt_of_le (h.lt k hk) ho.size, h.ne, h.each, h.once⟩
/-- What only makes memory changes no store. -/
theorem StoreAt.below {F : Nat → Prop} {w w' : World} {b : Nat} {es : List (SEnt × Nat)} {r a : Int} (h : StoreAt F w b es r a) (hb : Below w.heap.size w w') : StoreAt F w' b es r a := by
 obtain ⟨me, mv, L, cl, V, cv, h⟩ := h
 exact ⟨me, mv, L, cl, V, cv, h.only (Only.of (F := fun _ => False) hb) (fun _ _ => id) fun e he => (h.ent e he).only (Only.of hb) (fun _ _ => id) (hb.block _ (h.lt _ (h.own.2.2.2 e he)))⟩
theorem StoreIn.get {F : Nat → Prop} {w : World} {b me mv : Nat} {L : List (MEnt Gav)} {cl : Nat} {V : List (MEnt Id)} {cv : Nat} {es : List (SEnt × Nat)} {r a : Int} (h : StoreIn F w b me mv L cl V cv es r a) (g : Gav) :
    mGet L g = (es.find? fun e => decide (g = e.1.gav)).map fun e => ptr e.2 := by
 have hs := h.same
 clear h
 induction L generalizing es with
 | nil =>
  cases es with
  | nil => rfl
  | cons e es => simp at hs
 | cons m L ih =>
  cases es with
  | nil => simp at hs
  | cons e es =>
   simp only [List.map_cons, List.cons.injEq, Prod.mk.injEq] at hs
   rw [mGet_cons, List.find?_cons, hs.1.1, hs.1.2]
   by_cases hg : g = e.1.gav
   · simp [hg]
   · simp [hg, ih hs.2]
def hasG (es : List (SEnt × Nat)) (g : Gav) : Bool := (es.find? fun e => decide (g = e.1.gav)).isSome
theorem StoreIn.len {F : Nat → Prop} {w : World} {b me mv : Nat} {L : List (MEnt Gav)} {cl : Nat} {V : List (MEnt Id)} {cv : Nat} {es : List (SEnt × Nat)} {r a : Int} (h : StoreIn F w b me mv L cl V cv es r a) : L.length = es.length := by
 have := congrArg List.length h.same
 simpa using this
def nilS : Value := .slice none 0 0
def rowV (V : List (MEnt Id)) (x : Id) : Value := (mGet V x).getD nilS
theorem StoreIn.rowV_owns {F : Nat → Prop} {w : World} {b me mv : Nat} {L : List (MEnt Gav)} {cl : Nat} {V : List (MEnt Id)} {cv : Nat} {es : List (SEnt × Nat)} {r a : Int} (h : StoreIn F w b me mv L cl V cv es r a) (x : Id) : Owns 0 9 1 strC w (rowV V x) (versOf es x) := by
 unfold rowV
 rcases h.row x with ⟨h1, h2⟩ | ⟨v, h1, h2⟩
 · rw [h1, h2]; exact Owns.nil
 · rw [h1]; exact h2
theorem StoreIn.rowV_at {F : Nat → Prop} {w : World} {b me mv : Nat} {L : List (MEnt Gav)} {cl : Nat} {V : List (MEnt Id)} {cv : Nat} {es : List (SEnt × Nat)} {r a : Int} (h : StoreIn F w b me mv L cl V cv es r a) (x : Id) {k : Nat} (hk : (rowV V x).ownBlock = some k) :
    F k ∧ k ≠ b ∧ k ≠ me ∧ k ≠ mv ∧ ∀ e ∈ es, e.2 ≠ k := by
 unfold rowV at hk
 cases h1 : mGet V x with
 | none => rw [h1] at hk; cases hk
 | some v => rw [h1] at hk; exact h.rows x v k h1 hk
theorem versOf_snoc (es : List (SEnt × Nat)) (e : SEnt × Nat) (x : Id) : versOf (es ++ [e]) x = versOf es x ++ if idOf e.1.gav = x then [e.1.gav.version] else [] := by
 unfold versOf
 rw [List.map_append, List.filter_append, List.map_append]
 by_cases h : idOf e.1.gav = x <;> simp [h]
theorem hasG_none {es : List (SEnt × Nat)} {g : Gav} (h : hasG es g = false) : ∀ e ∈ es, e.1.gav ≠ g := by
 unfold hasG at h
 rw [Option.isSome_eq_false_iff, Option.isNone_iff_eq_none, List.find?_eq_none] at h
 intro e he h2
 exact h e he (by simp [h2])
/-- A project more. -/
theorem StoreIn.put {F : Nat → Prop} {w w1 w2 w3 w4 : World} {b me mv eb : Nat} {L : List (MEnt Gav)} {cl : Nat} {V : List (MEnt Id)} {cv : Nat} {es : List (SEnt × Nat)} {r a : Int} {g : Gav} {s : S} {v' : Value} (h : StoreIn F w b me mv L cl V cv es r a) (hn : hasG es g = false)
    (h1 : Below w.heap.size w w1) (hbx : Box w1 eb (entC (freshE g s) nilS nilS nilS)) (heb : w.heap.size ≤ eb) (h2 : Below w1.heap.size (mSet kGav w1 me (mPut L g (ptr eb) cl) (mCnt L g cl)) w2)
    (h3 : w2.grownBy w3 (rowV V (idOf g)).ownBlock) (ho : Owns 0 9 1 strC w3 v' (versOf es (idOf g) ++ [g.version])) (hv' : v'.ownBlock = (rowV V (idOf g)).ownBlock ∨ ∃ k, w1.heap.size ≤ k ∧ v'.ownBlock = some k)
    (h4 : w4 = mSet kId w3 mv (mPut V (idOf g) v' cv) (mCnt V (idOf g) cv)) :
    (∃ F', StoreIn F' w4 b me mv (mPut L g (ptr eb) cl) (mCnt L g cl) (mPut V (idOf g) v' cv) (mCnt V (idOf g) cv) (es ++ [(freshE g s, eb)]) r a ∧ (∀ k, k < w.heap.size → F' k → F k)) ∧ Only F w w4 := by
 have hV := fun k => h.rowV_at (idOf g) (k := k)
 have s1 := h1.size
 have s2 : w1.heap.size ≤ w2.heap.size := by have := h2.size; simpa [mSet] using this
 have s3 := h3.size
 have s4 : w4.heap.size = w3.heap.size := by rw [h4]; simp [mSet]
 have lb := h.lt _ h.own.1
 have lme := h.lt _ h.own.2.1
 have lmv := h.lt _ h.own.2.2.1
 have le_ : ∀ e ∈ es, e.2 < w.heap.size := fun e he => h.lt _ (h.own.2.2.2 e he)
 have lV : ∀ k, (rowV V (idOf g)).ownBlock = some k → k < w.heap.size := fun k hk => h.lt _ (hV k hk).1
 have leb := hbx.lt
 have o12 : Only (fun k => k = me) w1 w2 := (Only.grown (mSet_grown w1 me (mPut L g (ptr eb) cl) (mCnt L g cl)) (by rintro k ⟨⟩; rfl)).trans (Only.of (F := fun k => k = me) (by have := h2; simpa [mSet] using this)) (fun _ _ => id)
 have o23 : Only (fun k => (rowV V (idOf g)).ownBlock = some k) w2 w3 := Only.grown h3 fun k hk => hk
 have o34 : Only (fun k => k = mv) w3 w4 := by rw [h4]; exact Only.grown (mSet_grown w3 mv _ _) (by rintro k ⟨⟩; rfl)
 have o24 : Only (fun k => (rowV V (idOf g)).ownBlock = some k ∨ k = mv) w2 w4 := (o23.mono fun _ _ => Or.inl).trans o34 fun _ _ => Or.inr
 have o14 : Only (fun k => k = me ∨ (rowV V (idOf g)).ownBlock = some k ∨ k = mv) w1 w4 := (o12.mono fun _ _ => Or.inl).trans o24 fun _ _ => Or.inr
 have o04 : Only (fun k => k = me ∨ (rowV V (idOf g)).ownBlock = some k ∨ k = mv) w w4 := (Only.of h1).trans o14 fun _ _ => id
 have o04F : Only F w w4 := o04.mono fun k _ hG => by
  rcases hG with rfl | e | rfl
  · exact h.own.2.1
  · exact (hV k e).1
  · exact h.own.2.2.1
 have o03 : Only (fun k => k = me ∨ (rowV V (idOf g)).ownBlock = some k) w w3 := ((Only.of (F := fun k => k = me) h1).trans o12 fun _ _ => id).mono (fun _ _ => Or.inl) |>.trans o23 fun _ _ => Or.inr
 have hmi : mIdx L g = none := by
  rw [mIdx_none, h.get, List.find?_eq_none.2 (fun e he => by have := hasG_none hn e he; simp [Ne.symm this])]
  rfl
 have hvk : ∀ k, v'.ownBlock = some k → (F k ∧ k < w.heap.size ∧ k ≠ b ∧ k ≠ me ∧ k ≠ mv ∧ ∀ e ∈ es, e.2 ≠ k) ∨ (w1.heap.size ≤ k) := fun k hk => by
  rcases hv' with e | ⟨k', hle, e⟩
  · rw [e] at hk
    exact .inl ⟨(hV k hk).1, lV k hk, (hV k hk).2⟩
  · rw [e] at hk; cases hk; exact .inr hle
 have lv' : ∀ k, v'.ownBlock = some k → k < w3.heap.size := fun k hk => (ho.lt k hk).2
 refine ⟨⟨fun k => F k ∨ (w.heap.size ≤ k ∧ k < w4.heap.size), ?_, fun k hk hF => hF.resolve_right (by omega)⟩, o04F⟩
 · refine ⟨h.box.only o04 ?_, ?_, ?_, ?_, ?_, ?_, ?_, ?_, ?_, ?_, ?_, ?_, ?_⟩
   · rintro (e | e | e)
     · exact h.ne.1 e
     · exact (hV b e).2.1 rfl
     · exact h.ne.2.1 e
   · have e1 : MMap kGav w1 me L cl := h.ents.below h1 lme
     have e2 : MMap kGav w2 me (mPut L g (ptr eb) cl) (mCnt L g cl) := (mSet_is e1).below h2 (by omega)
     refine e2.only o24 ?_
     rintro (e | e)
     · exact (hV me e).2.2.1 rfl
     · exact h.ne.2.2.1 e
   · rw [h4]
     refine mSet_is (L := V) (c := cv) (h.vers.only o03 ?_)
     rintro (e | e)
     · exact h.ne.2.2.1 e.symm
     · exact (hV mv e).2.2.2.1 rfl
   · have : mPut L g (ptr eb) cl = L ++ [⟨g, ptr eb, cl⟩] := by simp [mPut, hmi]
     rw [this, List.map_append, List.map_append, h.same]
     rfl
   · intro e he
     rcases List.mem_append.1 he with he | he
     · refine (h.ent e he).only o04F (fun k hk hF => hF.resolve_right (by omega)) (o04.block _ (le_ e he) ?_)
       rintro (e2 | e2 | e2)
       · exact (h.ne.2.2.2 e he).2.1 e2
       · exact (hV _ e2).2.2.2.2 e he rfl
       · exact (h.ne.2.2.2 e he).2.2 e2
     · obtain rfl := List.mem_singleton.1 he
       refine ⟨nilS, nilS, nilS, hbx.only o14 ?_, PomKept.no _ _⟩
       rintro (e2 | e2 | e2)
       · subst e2; omega
       · have := lV _ e2; omega
       · subst e2; omega
   · intro x
     rw [mGet_put, versOf_snoc]
     by_cases hx : x = idOf g
     · subst hx
       refine .inr ⟨v', by simp, ?_⟩
       rw [if_pos (show idOf (freshE g s, eb).1.gav = idOf g from rfl)]
       refine ho.only o34 fun k hk e => ?_
       rcases hvk k hk with hh | hh
       · exact hh.2.2.2.2.1 e
       · subst e; omega
     · rw [if_neg hx, if_neg (fun e => hx e.symm), List.append_nil]
       refine (h.row x).imp id fun ⟨v, e1, e2⟩ => ⟨v, e1, e2.only o04 fun k hk => ?_⟩
       have hr := h.rows x v k e1 hk
       rintro (e3 | e3 | e3)
       · exact hr.2.2.1 e3
       · cases hm : mGet V (idOf g) with
         | none => simp [rowV, hm, nilS, Value.ownBlock] at e3
         | some u =>
          simp only [rowV, hm, Option.getD_some] at e3
          exact hx (h.apart x (idOf g) v u k e1 hm hk e3)
       · exact hr.2.2.2.1 e3
   · intro x v k hv hk
     rw [mGet_put] at hv
     by_cases hx : x = idOf g
     · rw [if_pos hx] at hv
       cases hv
       rcases hvk k hk with ⟨hF, hlt, e1, e2, e3, e4⟩ | hh
       · refine ⟨.inl hF, e1, e2, e3, fun e he => ?_⟩
         rcases List.mem_append.1 he with he | he
         · exact e4 e he
         · obtain rfl := List.mem_singleton.1 he
           show eb ≠ k
           omega
       · have := lv' k hk
         refine ⟨.inr ⟨by omega, by omega⟩, by omega, by omega, by omega, fun e he => ?_⟩
         rcases List.mem_append.1 he with he | he
         · have := le_ e he; omega
         · obtain rfl := List.mem_singleton.1 he
           show eb ≠ k
           omega
     · rw [if_neg hx] at hv
       obtain ⟨hF, e1, e2, e3, e4⟩ := h.rows x v k hv hk
       have hlt := h.lt k hF
       refine ⟨.inl hF, e1, e2, e3, fun e he => ?_⟩
       rcases List.mem_append.1 he with he | he
       · exact e4 e he
       · obtain rfl := List.mem_singleton.1 he
         show eb ≠ k
         omega
   · have hold : ∀ y u k, mGet V y = some u → u.ownBlock = some k → v'.ownBlock = some k → y = idOf g := fun y u k hu hk hk' => by
      rcases hv' with e | ⟨k', hle, e⟩
      · rw [e] at hk'
        cases hm : mGet V (idOf g) with
        | none => simp [rowV, hm, nilS, Value.ownBlock] at hk'
        | some z =>
         simp only [rowV, hm, Option.getD_some] at hk'
         exact h.apart y (idOf g) u z k hu hm hk hk'
      · rw [e] at hk'; cases hk'
        have := h.lt k (h.rows y u k hu hk).1
        omega
     intro x y v u k hv hu hk hk'
     rw [mGet_put] at hv hu
     by_cases hx : x = idOf g
     · rw [if_pos hx] at hv
       cases hv
       by_cases hy : y = idOf g
       · rw [hx, hy]
       · rw [if_neg hy] at hu
         exact absurd (hold y u k hu hk' hk) hy
     · rw [if_neg hx] at hv
       by_cases hy : y = idOf g
       · rw [if_pos hy] at hu
         cases hu
         exact absurd (hold x v k hv hk hk') hx
       · rw [if_neg hy] at hu
         exact h.apart x y v u k hv hu hk hk'
   · refine ⟨.inl h.own.1, .inl h.own.2.1, .inl h.own.2.2.1, fun e he => ?_⟩
     rcases List.mem_append.1 he with he | he
     · exact .inl (h.own.2.2.2 e he)
     · obtain rfl := List.mem_singleton.1 he
       refine .inr ⟨heb, ?_⟩
       show eb < _
       omega
   · rintro k (hF | hF)
     · have := h.lt k hF; omega
     · exact hF.2
   · refine ⟨h.ne.1, h.ne.2.1, h.ne.2.2.1, fun e he => ?_⟩
     rcases List.mem_append.1 he with he | he
     · exact h.ne.2.2.2 e he
     · obtain rfl := List.mem_singleton.1 he
       refine ⟨?_, ?_, ?_⟩ <;> show eb ≠ _ <;> omega
   · rw [List.map_append, List.nodup_append]
     refine ⟨h.each, by simp, fun x hx y hy => ?_⟩
     obtain ⟨e, he, rfl⟩ := List.mem_map.1 hx
     simp at hy; subst hy
     have := le_ e he
     omega
   · rw [List.map_append, List.nodup_append]
     refine ⟨h.once, by simp, fun x hx y hy => ?_⟩
     obtain ⟨e, he, rfl⟩ := List.mem_map.1 hx
     simp at hy; subst hy
     exact hasG_none hn e he
theorem set_mem {es : List (SEnt × Nat)} {i : Nat} {e e' : SEnt} {eb : Nat} (hi : es[i]? = some (e, eb)) (hg : e'.gav = e.gav) {x : SEnt × Nat} (hx : x ∈ es.set i (e', eb)) : ∃ y ∈ es, y.2 = x.2 ∧ y.1.gav = x.1.gav := by
 rcases List.mem_or_eq_of_mem_set hx with h | rfl
 · exact ⟨x, h, rfl, rfl⟩
 · exact ⟨(e, eb), List.mem_of_getElem? hi, rfl, hg.symm⟩
theorem set_map {α : Type} {es : List (SEnt × Nat)} {i : Nat} {y x : SEnt × Nat} (hi : es[i]? = some y) (f : SEnt × Nat → α) (h : f x = f y) : (es.set i x).map f = es.map f := by
 apply List.ext_getElem?
 intro j
 rw [List.getElem?_map, List.getElem?_map, List.getElem?_set]
 by_cases hj : i = j
 · subst hj
   obtain ⟨hl, he⟩ := List.getElem?_eq_some_iff.1 hi
   simp [hl, he, h]
 · simp [hj]
/-- One project's cells, and the store's own, have turned. -/
theorem StoreIn.turn {F : Nat → Prop} {w w' : World} {b me mv : Nat} {L : List (MEnt Gav)} {cl : Nat} {V : List (MEnt Id)} {cv : Nat} {es : List (SEnt × Nat)} {r a r' a' : Int} {i : Nat} {e e' : SEnt} {eb : Nat} (h : StoreIn F w b me mv L cl V cv es r a) (hi : es[i]? = some (e, eb)) (hgv : e'.gav = e.gav)
    (ho : Only (fun k => k = b ∨ k = eb) w w') (hb : Box w' b [.map (some me), .map (some mv), .int .i64 r', .int .i64 a']) (he : EntryAt F w' eb e') : StoreIn F w' b me mv L cl V cv (es.set i (e', eb)) r' a' := by
 have hmem := List.mem_of_getElem? hi
 have hne := h.ne.2.2.2 _ hmem
 have hoF : Only F w w' := ho.mono fun k _ hk => by
  rcases hk with rfl | rfl
  · exact h.own.1
  · exact h.own.2.2.2 _ hmem
 have hnb : ∀ k, k ≠ b → k ≠ eb → ¬ (k = b ∨ k = eb) := fun k h1 h2 h3 => h3.elim h1 h2
 have hv : ∀ x, versOf (es.set i (e', eb)) x = versOf es x := fun x => by
  unfold versOf
  rw [set_map hi (fun e => e.1.gav) hgv]
 refine ⟨hb, h.ents.only ho (hnb _ (Ne.symm h.ne.1) (Ne.symm hne.2.1)), h.vers.only ho (hnb _ (Ne.symm h.ne.2.1) (Ne.symm hne.2.2)), ?_, ?_, ?_, ?_, h.apart, ?_, ?_, ?_, ?_, ?_⟩
 · rw [set_map hi _ (by simp [hgv])]; exact h.same
 · intro x hx
   obtain ⟨j, hj, rfl⟩ := List.mem_iff_getElem.1 hx
   rw [List.getElem_set]
   have hjl : j < es.length := by simpa using hj
   split
   · exact he
   · rename_i hij
     have hil : i < es.length := (List.getElem?_eq_some_iff.1 hi).1
     have hie : es[i] = (e, eb) := (List.getElem?_eq_some_iff.1 hi).2
     have hdb : es[j].2 ≠ eb := by
      intro e3
      have hp := List.pairwise_iff_getElem.1 h.each
      rcases Nat.lt_or_gt_of_ne hij with hlt | hlt
      · exact hp i j (by simpa using hil) (by simpa using hjl) hlt (by simp [hie, e3])
      · exact hp j i (by simpa using hjl) (by simpa using hil) hlt (by simp [hie, e3])
     refine (h.ent es[j] (by simp)).only hoF (fun _ _ => id) (ho.block _ (h.lt _ (h.own.2.2.2 es[j] (by simp))) (hnb _ (h.ne.2.2.2 es[j] (by simp)).1 hdb))
 · intro x
   rw [hv]
   refine (h.row x).imp id fun ⟨v, h1, h2⟩ => ⟨v, h1, h2.only ho fun k hk => ?_⟩
   have hr := h.rows x v k h1 hk
   exact hnb _ hr.2.1 (fun e3 => hr.2.2.2.2 _ hmem e3.symm)
 · intro x v k h1 hk
   have hr := h.rows x v k h1 hk
   refine ⟨hr.1, hr.2.1, hr.2.2.1, hr.2.2.2.1, fun y hy => ?_⟩
   obtain ⟨z, hz, e1, -⟩ := set_mem hi hgv hy
   rw [← e1]; exact hr.2.2.2.2 z hz
 · refine ⟨h.own.1, h.own.2.1, h.own.2.2.1, fun y hy => ?_⟩
   obtain ⟨z, hz, e1, -⟩ := set_mem hi hgv hy
   rw [← e1]; exact h.own.2.2.2 z hz
 · exact fun k hk => Nat.lt_of_lt_of_le (h.lt k hk) ho.size
 · refine ⟨h.ne.1, h.ne.2.1, h.ne.2.2.1, fun y hy => ?_⟩
   obtain ⟨z, hz, e1, -⟩ := set_mem hi hgv hy
   rw [← e1]; exact h.ne.2.2.2 z hz
 · rw [set_map (x := (e', eb)) hi (fun e : SEnt × Nat => e.2) rfl]; exact h.each
 · rw [set_map (x := (e', eb)) hi (fun e : SEnt × Nat => e.1.gav) hgv]; exact h.once
theorem StoreIn.counts {F : Nat → Prop} {w w' : World} {b me mv : Nat} {L : List (MEnt Gav)} {cl : Nat} {V : List (MEnt Id)} {cv : Nat} {es : List (SEnt × Nat)} {r a r' a' : Int} (h : StoreIn F w b me mv L cl V cv es r a)
    (ho : Only (fun k => k = b) w w') (hb : Box w' b [.map (some me), .map (some mv), .int .i64 r', .int .i64 a']) : StoreIn F w' b me mv L cl V cv es r' a' :=
 ⟨hb, h.ents.only ho (Ne.symm h.ne.1), h.vers.only ho (Ne.symm h.ne.2.1), h.same, fun e he => (h.ent e he).only (ho.mono fun k _ hk => by rw [hk]; exact h.own.1) (fun _ _ => id) (ho.block _ (h.lt _ (h.own.2.2.2 e he)) (h.ne.2.2.2 e he).1),
  fun x => (h.row x).imp id fun ⟨v, h1, h2⟩ => ⟨v, h1, h2.only ho fun k hk => (h.rows x v k h1 hk).2.1⟩, h.rows, h.apart, h.own, fun k hk => Nat.lt_of_lt_of_le (h.lt k hk) ho.size, h.ne, h.each, h.once⟩

end Go.Proofs.YtphaeegbmfpcgaaGreatDoor
