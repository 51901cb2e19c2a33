/- Walks: the document's Edits; the conditions stand in the theorem. -/
import Derived.Test.YtmcjpmogjmnfpaaL10
import Derived.Test.YtmcjpmogjmnfpaaL12
namespace Go.Proofs.Ytmcjpmogjmnfpaa
open Go Go.RowKit

def refEditsR (a b : Lock) : List Edit := if lockMay a && lockMay b then refEdits a.pins b.pins else []
theorem refFind_f (l : List Pin) (k : Key) : ∃ (p : Pin) (s : Bool), (findP l k).getD noPin = p ∧ (findP l k).isSome = s ∧ ∀ (v : Value) (w : World), SliceOf 6 pinC w v l → Calls Try.prog 29 #[v, .agg #[.string k.group, .string k.artifact, .string k.type, .string k.classifier]] w fun e w' => e = .returned (.tuple #[.agg #[.string p.key.group, .string p.key.artifact, .string p.key.type, .string p.key.classifier, .string p.version, .int .i64 p.scope], .bool s]) ∧ Below w.heap.size w w' :=
  ⟨_, _, rfl, rfl, fun v w hv => refFind_any l v k w hv⟩
theorem oneR_of {k : Key} {x y : Option Pin} {p q : Pin} {s t : Bool} (hp : x.getD noPin = p) (hs : x.isSome = s) (hq : y.getD noPin = q) (ht : y.isSome = t) : oneR k x y = if s ≠ t ∨ p ≠ q then [⟨k, s, t, p, q⟩] else [] := by
  subst hp hs hq ht; rfl
theorem editLit (w : World) (e : Edit) (N : Nat) (hN : w.heap.size = N) : SliceOf 18 editC (w.alloc (.cells (editC e).toArray 46)) (.slice (some ⟨N, 0, none⟩) 1 1) [e] := by
  have := sliceLit editC_len w [e] 46 N 1 hN rfl (by simp [maxLen])
  simpa using this
theorem flat_step {keys : List Key} {f : Key → List Edit} {i : Nat} (hi : i < keys.length) : (keys.take (i + 1)).flatMap f = (keys.take i).flatMap f ++ f keys[i] := by
  rw [List.take_succ_eq_append_getElem hi, List.flatMap_append]; simp
theorem flat_len1 (keys : List Key) (f : Key → List Edit) (hf : ∀ k, (f k).length ≤ 1) : (keys.flatMap f).length ≤ keys.length := by
  induction keys with
  | nil => simp
  | cons k l ih => rw [List.flatMap_cons, List.length_append, List.length_cons]; have := hf k; omega
theorem oneR_len (k : Key) (x y : Option Pin) : (oneR k x y).length ≤ 1 := by unfold oneR; split <;> simp
theorem keysP_len (l : List Pin) : (keysP l).length ≤ l.length := by
  have : ∀ (l : List Pin) (out : List Key), (l.foldl (fun out p => insK out p.key) out).length ≤ out.length + l.length := by
    intro l
    induction l with
    | nil => intro out; simp
    | cons p l ih => intro out; have h1 := ih (insK out p.key); have h2 := insK_len out p.key; simp only [List.foldl_cons, List.length_cons]; omega
  have := this l []
  simpa [keysP] using this
theorem Box.sets7n {w : World} {b N a0 a1 a2 a3 a4 a5 a6 : Nat} {cs : List Value} {u0 u1 u2 u3 u4 u5 u6 : Value} (h : Box w b cs) (hN : b ≠ N) : Box (((((((w.setCell ⟨N, a0, none⟩ u0).setCell ⟨N, a1, none⟩ u1).setCell ⟨N, a2, none⟩ u2).setCell ⟨N, a3, none⟩ u3).setCell ⟨N, a4, none⟩ u4).setCell ⟨N, a5, none⟩ u5).setCell ⟨N, a6, none⟩ u6) b cs :=
  h.grown ((((((((setCell_grown _ _ _ _).trans (setCell_grown _ _ _ _)).trans (setCell_grown _ _ _ _)).trans (setCell_grown _ _ _ _)).trans (setCell_grown _ _ _ _)).trans (setCell_grown _ _ _ _)).trans (setCell_grown _ _ _ _))) (by simpa using hN)
theorem below_sets7n {B : Nat} {v w : World} {N a0 a1 a2 a3 a4 a5 a6 : Nat} {u0 u1 u2 u3 u4 u5 u6 : Value} (h : Below B v w) (hN : B ≤ N) : Below B v (((((((w.setCell ⟨N, a0, none⟩ u0).setCell ⟨N, a1, none⟩ u1).setCell ⟨N, a2, none⟩ u2).setCell ⟨N, a3, none⟩ u3).setCell ⟨N, a4, none⟩ u4).setCell ⟨N, a5, none⟩ u5).setCell ⟨N, a6, none⟩ u6) :=
  h.trans (((((((((Below.refl B w).setCell (by exact hN) _).setCell (by exact hN) _).setCell (by exact hN) _).setCell (by exact hN) _).setCell (by exact hN) _).setCell (by exact hN) _).setCell (by exact hN) _))
theorem info_pinE : (Try.prog.info? 44).map (fun i => (i.zero, i.size, i.bytes)) = some (some (.agg #[.string ⟨#[]⟩, .string ⟨#[]⟩, .string ⟨#[]⟩, .string ⟨#[]⟩, .string ⟨#[]⟩, .int .i64 0]), 6, 88) := by kernel_rfl
theorem own_below {α : Type} {B : Nat} {w2 w8 w9 : World} {E n : Nat} {C : α → List Value} {v : Value} {l : List α} (h : Below B w2 w8) (ho : Owns B E n C w8 v l) (hg : w8.grownBy w9 v.ownBlock) (hB : B ≤ w8.heap.size) : Below B w2 w9 := by
  exact h.trans ⟨hg.os, hg.tape, hg.output, hg.size, fun k hk => hg.block k (Nat.lt_of_lt_of_le hk hB) fun e => by have := (ho.lt k e.symm).1; omega⟩

attribute [local go_sem ↓] eqg_pinE neq_pinB in
set_option maxRecDepth 100000 in
set_option maxHeartbeats 8000000 in
theorem refEdits_any (a b : Lock) (av bv : Value) (w : World) (hav : SliceOf 6 pinC w av a.pins) (hbv : SliceOf 6 pinC w bv b.pins) (hsa : lockSm a) (hsb : lockSm b) (hl : a.pins.length + b.pins.length ≤ 1000) :
    Calls Try.prog 11 #[.agg #[.string a.root.group, .string a.root.artifact, .string a.root.version, av], .agg #[.string b.root.group, .string b.root.artifact, .string b.root.version, bv]] w (EditsOut w (refEditsR a b)) := by
  obtain ⟨ao, ac, rfl⟩ := hav.shape
  obtain ⟨bo, bc, rfl⟩ := hbv.shape
  have HA := Lib.hid hav
  have HB := Lib.hid hbv
  have HSA := Lib.hid hsa
  have HSB := Lib.hid hsb
  have HL := Lib.hid hl
  clear hav hbv hsa hsb hl
  go_enter Try.func11, Try.ntmps11
  go_upto_region 2 with fail
  refine wp_world ?_
  intro W hW
  have x2 : Box W w.heap.size [.string a.root.group, .string a.root.artifact, .string a.root.version, .slice ao a.pins.length ac] := by rw [hW]; exact ((Box.new w _ _ _ rfl).alloc _)
  have x3 : Box W (w.heap.size + 1) [.string b.root.group, .string b.root.artifact, .string b.root.version, .slice bo b.pins.length bc] := by rw [hW]; exact (Box.new _ _ _ _ (by simp))
  have hB : Below w.heap.size w W := by rw [hW]; exact ((Below.refl _ w).alloc (Nat.le_refl _) _).alloc (by simp) _
  clear hW
  have HX2 := Lib.hid x2
  have HX3 := Lib.hid x3
  have HBW := Lib.hid hB
  have hs := hB.size
  have y0 := x2.cell 0 _ rfl
  have y1 := x2.cell 1 _ rfl
  have y2 := x2.cell 2 _ rfl
  have y3 := x2.cell 3 _ rfl
  clear x2 x3 hB
  have HM1 := Lib.hid (refLockMay_any a (.slice ao a.pins.length ac) W (HA.out.below HBW.out) HSA.out)
  have HR1 : Hid (lockMay a = false → refEditsR a b = []) := fun h => by unfold refEditsR; rw [h]; rfl
  have HR2 : Hid (lockMay a = true → lockMay b = false → refEditsR a b = []) := fun h h' => by unfold refEditsR; rw [h, h']; rfl
  have HR3 : Hid (lockMay a = true → lockMay b = true → refEditsR a b = refEdits a.pins b.pins) := fun h h' => by unfold refEditsR; rw [h, h']; rfl
  go_wp2_with fail
  refine HM1.out.mono ?_
  rintro e w1 ⟨rfl, hb1⟩
  have z2 := HX2.out.below hb1 HX2.out.lt
  have z3 := HX3.out.below hb1 HX3.out.lt
  have HX2' := Lib.hid z2
  have HX3' := Lib.hid z3
  have HB1 := Lib.hid (HBW.out.trans (hb1.mono hs))
  have s1 := HB1.out.size
  have d30 := z3.cell 0 _ rfl
  have d31 := z3.cell 1 _ rfl
  have d32 := z3.cell 2 _ rfl
  have d33 := z3.cell 3 _ rfl
  clear z2 z3 hb1 y0 y1 y2 y3 HX2 HX3
  generalize hma : lockMay a = ma at *
  have HMA := Lib.hid hma
  clear hma
  cases ma with
  | false =>
    have HE := Lib.hid (HR1.out rfl)
    go_wp2
    go_ret
    rw [HE.out]
    exact EditsOut.none HB1.out
  | true =>
    have HM2 := Lib.hid (refLockMay_any b (.slice bo b.pins.length bc) w1 (HB.out.below HB1.out) HSB.out)
    go_wp2_with fail
    refine HM2.out.mono ?_
    rintro e w2 ⟨rfl, hb2⟩
    have q2 := HX2'.out.below hb2 HX2'.out.lt
    have q3 := HX3'.out.below hb2 HX3'.out.lt
    have HB2 := Lib.hid (HB1.out.trans (hb2.mono s1))
    have s2 := HB2.out.size
    clear d30 d31 d32 d33 hb2 HX2' HX3'
    have HX2 := Lib.hid q2
    have HX3 := Lib.hid q3
    clear q2 q3
    generalize hmb : lockMay b = mb at *
    have HMB := Lib.hid hmb
    clear hmb
    cases mb with
    | false =>
      have HE := Lib.hid (HR2.out (by trivial) (by trivial))
      go_wp2
      go_ret
      rw [HE.out]
      exact EditsOut.none HB2.out
    | true =>
      have HE := Lib.hid (HR3.out (by trivial) (by trivial))
      clear HR1 HR2 HR3 HM1 HM2
      have c2 := HX2.out.cell 3 _ rfl
      have c3 := HX3.out.cell 3 _ rfl
      have l2 := HX2.out.lt
      have l3 := HX3.out.lt
      have HOE : Hid (Owns w2.heap.size 44 6 pinC (w2.drew.alloc (.cells #[] 44)) (.slice (some ⟨w2.heap.size, 0, none⟩) 0 0) []) := Owns.empty (w := w2.drew) rfl (Nat.le_refl _)
      have HAL : Hid (Below w2.heap.size w2 (w2.drew.alloc (.cells #[] 44))) := (belowN (Below.refl _ w2) 1).trans ((Below.refl _ w2.drew).alloc (Nat.le_refl _) _)
      have HAX : Hid (∀ V, Below w2.heap.size w2 V → SliceOf 6 pinC V (.slice ao a.pins.length ac) a.pins) := fun V h => HA.out.below (HB2.out.trans (h.mono s2))
      have HBX : Hid (∀ V, Below w2.heap.size w2 V → SliceOf 6 pinC V (.slice bo b.pins.length bc) b.pins) := fun V h => HB.out.below (HB2.out.trans (h.mono s2))
      go_wp2_with fail
      go_cut [24, 25, 26] from 17 to 26 (fun kv kl ki wx => ∃ ko kc, kv = .slice ko (keysP (a.pins ++ b.pins)).length kc ∧ kl = .int .i64 (keysP (a.pins ++ b.pins)).length ∧ ki = .int .i64 0 ∧ SliceOf 4 keyC wx (.slice ko (keysP (a.pins ++ b.pins)).length kc) (keysP (a.pins ++ b.pins)) ∧ Below w2.heap.size w2 wx)
      case first =>
        go_region_law (first | (refine step_append_slice _ rfl (.tmp 17) (.tmp 19) 24 rfl w2.heap.size 44 Try.underlying24 info_pinE rfl (by decide) pinC_len (.slice (some ⟨w2.heap.size, 0, none⟩) 0 0) [] (by simp [Act.eval]) HOE.out (.slice ao a.pins.length ac) a.pins (by simp [Act.eval]) (HAX.out _ HAL.out) (fun _ _ => pinC_one) (by have h1 := HL.out; simp only [List.length_nil]; omega) (by decide) (by simp) ?_; intro a8 n8 c8 w8 ho8 hg8; have HO8 := Lib.hid ho8; have HG8 : Hid (Below w2.heap.size w2 w8) := HAL.out.trans (below_grown hg8 (by simp) |>.mono (Nat.le_refl _)); have c38 := (HX3.out.below HG8.out HX3.out.lt).cell 3 _ rfl; clear ho8 hg8) | (refine step_append_slice _ rfl (.tmp 20) (.tmp 22) 24 rfl w2.heap.size 44 Try.underlying24 info_pinE rfl (by decide) pinC_len (.slice a8 n8 c8) ([] ++ a.pins) (by simp [Act.eval]) HO8.out (.slice bo b.pins.length bc) b.pins (by simp [Act.eval]) (HBX.out _ HG8.out) (fun _ _ => pinC_one) (by have h1 := HL.out; simp only [List.nil_append]; omega) (by decide) HG8.out.size ?_; intro a9 n9 c9 w9 ho9 hg9; have HO9 := Lib.hid ho9; have HG9 := Lib.hid (own_below HG8.out HO8.out hg9 HG8.out.size); clear ho9 hg9) | (go_simp; go_at_call 28; refine (keys_any ([] ++ a.pins ++ b.pins) _ _ (HO9.out.slice pinC_len) (by have h1 := HL.out; simp only [List.nil_append, List.length_append]; omega)).mono ?_; rintro e w10 ⟨kv, rfl, hk10, hb10⟩; obtain ⟨ko, kc, rfl⟩ := hk10.shape; have HK10 : Hid (SliceOf 4 keyC w10 (.slice ko (keysP (a.pins ++ b.pins)).length kc) (keysP (a.pins ++ b.pins))) := hk10.slice keyC_len; have HB10 := Lib.hid (HG9.out.trans (hb10.mono HG9.out.size)); clear hk10 hb10))
        all_goals
          go_wp2_with fail
          go_meet
          exact ⟨ko, kc, rfl, rfl, rfl, HK10.out, HB10.out⟩
      case rest =>
      obtain ⟨ko, kc, rfl, rfl, rfl, hk, hb⟩ := hcut
      have HKS := Lib.hid hk
      have HWC := Lib.hid (HB2.out.trans (hb.mono s2))
      have HX2c := Lib.hid (HX2.out.below hb HX2.out.lt)
      have HX3c := Lib.hid (HX3.out.below hb HX3.out.lt)
      have HKL : Hid ((keysP (a.pins ++ b.pins)).length ≤ 1000) := by have h1 := keysP_len (a.pins ++ b.pins); have h2 := HL.out; rw [List.length_append] at h1; show _ ≤ _; omega
      have HEF : Hid (refEditsR a b = (keysP (a.pins ++ b.pins)).flatMap fun k => oneR k (findP a.pins k) (findP b.pins k)) := HE.out
      have s3 := HWC.out.size
      clear hk hb c2 c3 l2 l3 HOE HAL HAX HBX HE
      generalize keysP (a.pins ++ b.pins) = keys at *
      have hkl : keys.length ≤ 9223372036854775807 := by have h1 := HKL.out; omega
      go_wp2_with fail
      go_loopw [5, 26] (fun ov iv wr => ∃ (i : Nat) (out : List Edit), i ≤ keys.length ∧ iv = .int .i64 i ∧ Hid ((keys.take i).flatMap (fun k => oneR k (findP a.pins k) (findP b.pins k)) = out) ∧ Owns wc.heap.size 46 18 editC wr ov out ∧ Below wc.heap.size wc wr) (fun _ iv _ => keys.length - (intOf iv).toNat)
      case atStart => exact ⟨0, [], Nat.zero_le _, rfl, rfl, Owns.nil, Below.refl _ _⟩
      case round =>
        obtain ⟨i, out, hi, rfl, HOU, ho, hb⟩ := hrel
        obtain ⟨oo, oc, rfl⟩ := ho.shape
        have HO := Lib.hid ho
        have HBR := Lib.hid hb
        have hsr := hb.size
        by_cases hlt : i < keys.length
        · have hltI : (i : Int) < (keys.length : Int) := by omega
          have HOL : Hid (out.length ≤ 1000) := by have h1 := flat_len1 (keys.take i) _ (fun k => oneR_len k (findP a.pins k) (findP b.pins k)); rw [HOU.out, List.length_take] at h1; have h2 := HKL.out; show _ ≤ _; omega
          obtain ⟨kb, kf, rfl, hkb, hc⟩ := (HKS.out.below hb).at hlt
          have g0 : wr.cell? ⟨kb, kf + i * 4, none⟩ = some (.string keys[i].group) := by simpa using hc 0 _ rfl
          have g1 : wr.cell? ⟨kb, kf + i * 4 + 1, none⟩ = some (.string keys[i].artifact) := hc 1 _ rfl
          have g2 : wr.cell? ⟨kb, kf + i * 4 + 2, none⟩ = some (.string keys[i].type) := hc 2 _ rfl
          have g3 : wr.cell? ⟨kb, kf + i * 4 + 3, none⟩ = some (.string keys[i].classifier) := hc 3 _ rfl
          have HST := Lib.hid (flat_step (f := fun k => oneR k (findP a.pins k) (findP b.pins k)) hlt)
          have hx7 : Hid (∀ o2, Box ((wr.alloc (.cells #[.string keys[i].group, .string keys[i].artifact, .string keys[i].type, .string keys[i].classifier] 42)).alloc o2) wr.heap.size [.string keys[i].group, .string keys[i].artifact, .string keys[i].type, .string keys[i].classifier]) := fun o2 => (Box.new wr _ _ _ rfl).alloc _
          have hx8 : Hid (∀ o1, Box ((wr.alloc o1).alloc (.cells #[.string ⟨#[]⟩, .string ⟨#[]⟩, .string ⟨#[]⟩, .string ⟨#[]⟩, .bool false, .bool false, .string ⟨#[]⟩, .string ⟨#[]⟩, .string ⟨#[]⟩, .string ⟨#[]⟩, .string ⟨#[]⟩, .int .i64 0, .string ⟨#[]⟩, .string ⟨#[]⟩, .string ⟨#[]⟩, .string ⟨#[]⟩, .string ⟨#[]⟩, .int .i64 0] 46)) (wr.heap.size + 1) [.string ⟨#[]⟩, .string ⟨#[]⟩, .string ⟨#[]⟩, .string ⟨#[]⟩, .bool false, .bool false, .string ⟨#[]⟩, .string ⟨#[]⟩, .string ⟨#[]⟩, .string ⟨#[]⟩, .string ⟨#[]⟩, .int .i64 0, .string ⟨#[]⟩, .string ⟨#[]⟩, .string ⟨#[]⟩, .string ⟨#[]⟩, .string ⟨#[]⟩, .int .i64 0]) := fun o1 => Box.new _ _ _ _ (by simp)
          have hbb : Hid (∀ o1 o2, Below wr.heap.size wr ((wr.alloc o1).alloc o2)) := fun o1 o2 => ((Below.refl _ wr).alloc (Nat.le_refl _) _).alloc (by simp) _
          clear hc hb ho
          generalize keys[i] = k at *
          go_upto_region 8 with ((with_reducible show wpList _ _ _ (Oper.mk none (Op.store 46 (.tmp 8) (.tmp 31)) _ _ _ _ :: _) _ _); refine wpList_store_box rfl 46 (.tmp 8) (.tmp 31) rfl (wr.heap.size + 1) [.string ⟨#[]⟩, .string ⟨#[]⟩, .string ⟨#[]⟩, .string ⟨#[]⟩, .bool false, .bool false, .string ⟨#[]⟩, .string ⟨#[]⟩, .string ⟨#[]⟩, .string ⟨#[]⟩, .string ⟨#[]⟩, .int .i64 0, .string ⟨#[]⟩, .string ⟨#[]⟩, .string ⟨#[]⟩, .string ⟨#[]⟩, .string ⟨#[]⟩, .int .i64 0] [.string k.group, .string k.artifact, .string k.type, .string k.classifier, .bool false, .bool false, .string ⟨#[]⟩, .string ⟨#[]⟩, .string ⟨#[]⟩, .string ⟨#[]⟩, .string ⟨#[]⟩, .int .i64 0, .string ⟨#[]⟩, .string ⟨#[]⟩, .string ⟨#[]⟩, .string ⟨#[]⟩, .string ⟨#[]⟩, .int .i64 0] rfl rfl (hx8.out _) rfl size_edit editC_one0 ?_; intro W0 v0 hg0)
          have X8 := Lib.hid v0
          have X7 := Lib.hid ((hx7.out _).grown hg0 (by simp))
          have HB0 := Lib.hid ((hbb.out _ _).trans (below_grown hg0 (by simp) |>.mono (by omega)))
          clear hx7 hx8 hbb v0 hg0 g0 g1 g2 g3 hkb
          obtain ⟨p, s, hp, hs5, HF1⟩ := refFind_f a.pins k
          obtain ⟨q, t, hq, ht5, HF2⟩ := refFind_f b.pins k
          have HR := Lib.hid (oneR_of (k := k) hp hs5 hq ht5)
          have HF1' := Lib.hid HF1
          have HF2' := Lib.hid HF2
          clear HF1 HF2 hp hs5 hq ht5
          have cb := (HX2c.out.below (HBR.out.trans (HB0.out.mono hsr)) HX2c.out.lt).cell 3 _ rfl
          have k0 := X7.out.cell 0 _ rfl
          have k1 := X7.out.cell 1 _ rfl
          have k2 := X7.out.cell 2 _ rfl
          have k3 := X7.out.cell 3 _ rfl
          go_wp2_with fail
          refine (HF1'.out (.slice ao a.pins.length ac) W0 (HA.out.below (HWC.out.trans ((HBR.out.trans (HB0.out.mono hsr)).mono s3)))).mono ?_
          rintro e w3 ⟨rfl, hb1⟩
          have e7 := X7.out.below hb1 X7.out.lt
          have e8 := X8.out.below hb1 X8.out.lt
          have HB1a := Lib.hid (HB0.out.trans (hb1.mono HB0.out.size))
          clear cb k0 k1 k2 k3 hb1
          have n6 := e8.cell 6 _ rfl
          have m6 := e8.free 6
          have n7 := e8.cell 7 _ rfl
          have m7 := e8.free 7
          have n8 := e8.cell 8 _ rfl
          have m8 := e8.free 8
          have n9 := e8.cell 9 _ rfl
          have m9 := e8.free 9
          have n10 := e8.cell 10 _ rfl
          have m10 := e8.free 10
          have n11 := e8.cell 11 _ rfl
          have m11 := e8.free 11
          have n4 := e8.cell 4 _ rfl
          have m4 := e8.free 4
          have ml := e8.lt
          have E7 := Lib.hid e7
          have E8 := Lib.hid e8
          clear e7 e8
          go_upto_region 9 with fail
          refine wp_world ?_
          intro W4 hW4
          have x8 : Box W4 (wr.heap.size + 1) [.string k.group, .string k.artifact, .string k.type, .string k.classifier, .bool s, .bool false, .string p.key.group, .string p.key.artifact, .string p.key.type, .string p.key.classifier, .string p.version, .int .i64 p.scope, .string ⟨#[]⟩, .string ⟨#[]⟩, .string ⟨#[]⟩, .string ⟨#[]⟩, .string ⟨#[]⟩, .int .i64 0] := by rw [hW4]; exact ((((((E8.out.set 6 _).set 7 _).set 8 _).set 9 _).set 10 _).set 11 _).set 4 _
          have x7 : Box W4 wr.heap.size [.string k.group, .string k.artifact, .string k.type, .string k.classifier] := by rw [hW4]; exact E7.out.sets7n (by omega)
          have hbn : Below wr.heap.size wr W4 := by rw [hW4]; exact below_sets7n HB1a.out (by omega)
          have X71 := Lib.hid x7
          have X81 := Lib.hid x8
          have HBn1 := Lib.hid hbn
          clear x7 x8 hbn hW4 ml E7 E8 n6 m6 n7 m7 n8 m8 n9 m9 n10 m10 n11 m11 n4 m4
          have cb := (HX3c.out.below (HBR.out.trans (HBn1.out.mono hsr)) HX3c.out.lt).cell 3 _ rfl
          have k0 := X71.out.cell 0 _ rfl
          have k1 := X71.out.cell 1 _ rfl
          have k2 := X71.out.cell 2 _ rfl
          have k3 := X71.out.cell 3 _ rfl
          go_wp2_with fail
          refine (HF2'.out (.slice bo b.pins.length bc) W4 (HB.out.below (HWC.out.trans ((HBR.out.trans (HBn1.out.mono hsr)).mono s3)))).mono ?_
          rintro e w5 ⟨rfl, hb2⟩
          have e7 := X71.out.below hb2 X71.out.lt
          have e8 := X81.out.below hb2 X81.out.lt
          have HB2a := Lib.hid (HBn1.out.trans (hb2.mono HBn1.out.size))
          clear cb k0 k1 k2 k3 hb2
          have n12 := e8.cell 12 _ rfl
          have m12 := e8.free 12
          have n13 := e8.cell 13 _ rfl
          have m13 := e8.free 13
          have n14 := e8.cell 14 _ rfl
          have m14 := e8.free 14
          have n15 := e8.cell 15 _ rfl
          have m15 := e8.free 15
          have n16 := e8.cell 16 _ rfl
          have m16 := e8.free 16
          have n17 := e8.cell 17 _ rfl
          have m17 := e8.free 17
          have n5 := e8.cell 5 _ rfl
          have m5 := e8.free 5
          have ml := e8.lt
          have E7 := Lib.hid e7
          have E8 := Lib.hid e8
          clear e7 e8
          go_upto_region 10 with fail
          refine wp_world ?_
          intro W6 hW6
          have x8 : Box W6 (wr.heap.size + 1) [.string k.group, .string k.artifact, .string k.type, .string k.classifier, .bool s, .bool t, .string p.key.group, .string p.key.artifact, .string p.key.type, .string p.key.classifier, .string p.version, .int .i64 p.scope, .string q.key.group, .string q.key.artifact, .string q.key.type, .string q.key.classifier, .string q.version, .int .i64 q.scope] := by rw [hW6]; exact ((((((E8.out.set 12 _).set 13 _).set 14 _).set 15 _).set 16 _).set 17 _).set 5 _
          have x7 : Box W6 wr.heap.size [.string k.group, .string k.artifact, .string k.type, .string k.classifier] := by rw [hW6]; exact E7.out.sets7n (by omega)
          have hbn : Below wr.heap.size wr W6 := by rw [hW6]; exact below_sets7n HB2a.out (by omega)
          have X72 := Lib.hid x7
          have X82 := Lib.hid x8
          have HBn2 := Lib.hid hbn
          clear x7 x8 hbn hW6 ml E7 E8 n12 m12 n13 m13 n14 m14 n15 m15 n16 m16 n17 m17 n5 m5
          have HFIN : Hid (Below wc.heap.size wc W6) := HBR.out.trans (HBn2.out.mono hsr)
          have HO6 : Hid (Owns wc.heap.size 46 18 editC W6 (.slice oo out.length oc) out) := HO.out.below HBn2.out
          have n4 := X82.out.cell 4 _ rfl
          have n5 := X82.out.cell 5 _ rfl
          have n6 := X82.out.cell 6 _ rfl
          have n7 := X82.out.cell 7 _ rfl
          have n8 := X82.out.cell 8 _ rfl
          have n9 := X82.out.cell 9 _ rfl
          have n10 := X82.out.cell 10 _ rfl
          have n11 := X82.out.cell 11 _ rfl
          have n12 := X82.out.cell 12 _ rfl
          have n13 := X82.out.cell 13 _ rfl
          have n14 := X82.out.cell 14 _ rfl
          have n15 := X82.out.cell 15 _ rfl
          have n16 := X82.out.cell 16 _ rfl
          have n17 := X82.out.cell 17 _ rfl
          by_cases hst : s = t
          · subst hst
            by_cases hpq : p = q
            · subst hpq
              have HIN : Hid ((keys.take (i + 1)).flatMap (fun k => oneR k (findP a.pins k) (findP b.pins k)) = out) := by show _ = _; rw [HST.out, HOU.out, HR.out, if_neg (by simp), List.append_nil]
              have hd : pinEq p p = true := decide_eq_true rfl
              have hs7 : (s != s) = false := by simp
              go_wp2
              clear n4 n5 n6 n7 n8 n9 n10 n11 n12 n13 n14 n15 n16 n17
              go_roundw
              case rel => exact ⟨i + 1, out, hlt, by go_num, HIN.out, HO6.out, HFIN.out⟩
              case measure => simp [intOf]; omega
            · have HWY : Hid (s ≠ s ∨ p ≠ q) := .inr hpq
              have hd : pinEq p q = false := decide_eq_false hpq
              have hs7 : (s != s) = false := by simp
              clear hpq
              have HIN : Hid ((keys.take (i + 1)).flatMap (fun k => oneR k (findP a.pins k) (findP b.pins k)) = out ++ [(Edit.mk k s s p q)]) := by show _ = _; rw [HST.out, HOU.out, HR.out, if_pos HWY.out]
              have HLT := Lib.hid (editLit W6 (Edit.mk k s s p q) W6.heap.size rfl)
              go_upto_region 11 with fail
              clear n4 n5 n6 n7 n8 n9 n10 n11 n12 n13 n14 n15 n16 n17
              go_wp2_with (first | ((with_reducible show wpList _ _ _ (Oper.mk _ (Op.load 46 (.tmp 8)) _ _ _ _ :: _) _ _); refine wpList_load_box rfl 46 (.tmp 8) rfl (wr.heap.size + 1) [.string k.group, .string k.artifact, .string k.type, .string k.classifier, .bool s, .bool s, .string p.key.group, .string p.key.artifact, .string p.key.type, .string p.key.classifier, .string p.version, .int .i64 p.scope, .string q.key.group, .string q.key.artifact, .string q.key.type, .string q.key.classifier, .string q.version, .int .i64 q.scope] rfl X82.out Try.underlying46 rfl size_edit ?_) | (at_builtin; refine wpList_append_slice _ rfl _ _ 29 rfl wc.heap.size 46 Try.underlying29 info_edit rfl (by decide) editC_len (.slice oo out.length oc) out rfl (HO6.out.alloc _) _ [(Edit.mk k s s p q)] rfl HLT.out (fun y _ => editC_one) (by have h1 := HOL.out; simp only [List.length_cons, List.length_nil]; omega) (by decide) (by have h1 := HFIN.out.size; simp; omega) ?_; intro v8 w8 hown8 hgrow8 hloc8; have HO8 := Lib.hid hown8; have HG8 := Lib.hid hgrow8; clear hown8 hgrow8 hloc8))
              go_roundw
              case rel => exact ⟨i + 1, out ++ [(Edit.mk k s s p q)], hlt, by go_num, HIN.out, HO8.out, own_below (HFIN.out.trans ((Below.refl _ W6).alloc HFIN.out.size _)) (HO6.out.alloc _) HG8.out (by have h1 := HFIN.out.size; simp; omega)⟩
              case measure => simp [intOf]; omega
          · have HWY : Hid (s ≠ t ∨ p ≠ q) := .inl hst
            have hs7 : (s != t) = true := by simpa using hst
            have hs8 : (s == t) = false := by simpa using hst
            clear hst
            have HIN : Hid ((keys.take (i + 1)).flatMap (fun k => oneR k (findP a.pins k) (findP b.pins k)) = out ++ [(Edit.mk k s t p q)]) := by show _ = _; rw [HST.out, HOU.out, HR.out, if_pos HWY.out]
            have HLT := Lib.hid (editLit W6 (Edit.mk k s t p q) W6.heap.size rfl)
            go_upto_region 11 with fail
            clear n4 n5 n6 n7 n8 n9 n10 n11 n12 n13 n14 n15 n16 n17
            go_wp2_with (first | ((with_reducible show wpList _ _ _ (Oper.mk _ (Op.load 46 (.tmp 8)) _ _ _ _ :: _) _ _); refine wpList_load_box rfl 46 (.tmp 8) rfl (wr.heap.size + 1) [.string k.group, .string k.artifact, .string k.type, .string k.classifier, .bool s, .bool t, .string p.key.group, .string p.key.artifact, .string p.key.type, .string p.key.classifier, .string p.version, .int .i64 p.scope, .string q.key.group, .string q.key.artifact, .string q.key.type, .string q.key.classifier, .string q.version, .int .i64 q.scope] rfl X82.out Try.underlying46 rfl size_edit ?_) | (at_builtin; refine wpList_append_slice _ rfl _ _ 29 rfl wc.heap.size 46 Try.underlying29 info_edit rfl (by decide) editC_len (.slice oo out.length oc) out rfl (HO6.out.alloc _) _ [(Edit.mk k s t p q)] rfl HLT.out (fun y _ => editC_one) (by have h1 := HOL.out; simp only [List.length_cons, List.length_nil]; omega) (by decide) (by have h1 := HFIN.out.size; simp; omega) ?_; intro v8 w8 hown8 hgrow8 hloc8; have HO8 := Lib.hid hown8; have HG8 := Lib.hid hgrow8; clear hown8 hgrow8 hloc8))
            go_roundw
            case rel => exact ⟨i + 1, out ++ [(Edit.mk k s t p q)], hlt, by go_num, HIN.out, HO8.out, own_below (HFIN.out.trans ((Below.refl _ W6).alloc HFIN.out.size _)) (HO6.out.alloc _) HG8.out (by have h1 := HFIN.out.size; simp; omega)⟩
            case measure => simp [intOf]; omega
        · obtain rfl : i = keys.length := by omega
          have HF : Hid (refEditsR a b = out) := by show _ = _; rw [HEF.out]; have := HOU.out; rwa [List.take_length] at this
          clear hlt hb ho
          go_wp2
          go_ret
          rw [HF.out]
          exact ⟨_, rfl, HO.out.base_mono s3, HWC.out.trans (HBR.out.mono s3)⟩

end Go.Proofs.Ytmcjpmogjmnfpaa
