/- The walk of the document's All; the conditions stand in the theorem. -/
import Derived.Test.YtecffghcpknmjaaDoorJO09
import Derived.Deep.CutRange
namespace Go.Proofs.YtecffghcpknmjaaDoor
open Go Go.RowKit

/-- Where a cut slice begins: the walk's form, taken as it stands. -/
def cutA (a : Option Addr) (l m s : Nat) : Option Addr := if m = l then a else a.map (·.add (l * s))
theorem sliced_cutA (a : Option Addr) (l h m s : Nat) : sliced a l h m s = .slice (cutA a l m s) (h - l) (m - l) := rfl
theorem cutA_zero (a : Option Addr) (m s : Nat) : cutA a 0 m s = a := by
  unfold cutA
  split
  · rfl
  · cases a with
    | none => rfl
    | some x => simp [Addr.add]
theorem SliceOf.cutA {α : Type} {n : Nat} {C : α → List Value} {w : World} {ao : Option Addr} {len cap : Nat} {l : List α} (h : SliceOf n C w (.slice ao len cap) l) {k : Nat} (hk : k ≤ l.length) : SliceOf n C w (.slice (cutA ao k cap n) (len - k) (cap - k)) (l.drop k) := by
  have h0 := h
  obtain ⟨ao', cap', h1, h2, hm, h3, h4⟩ := h
  cases h1
  unfold Go.Proofs.YtecffghcpknmjaaDoor.cutA
  by_cases hl : l.length = k
  · rw [List.drop_of_length_le (by omega)]
    refine ⟨_, cap - k, by rw [List.length_nil]; congr 1; omega, by simp, by omega, fun e => ?_, fun i x hx => by simp at hx⟩
    by_cases hc : cap = k
    · omega
    · rw [if_neg hc] at e
      cases ao with
      | none => have := h3 rfl; omega
      | some a => cases e
  · have hc : cap ≠ k := by omega
    rw [if_neg hc]
    obtain ⟨x0, hx0⟩ : ∃ x, l[0]? = some x := ⟨_, List.getElem?_eq_getElem (by omega)⟩
    obtain ⟨b, o, rfl, -, -⟩ := h4 0 x0 hx0
    rw [Option.map_some, Addr.add_lit]
    refine ⟨_, _, by rw [List.length_drop], by rw [List.length_drop]; omega, by omega, by simp, fun i x hx => ?_⟩
    rw [List.getElem?_drop] at hx
    obtain ⟨b', o', e, hlt, hc⟩ := h4 _ _ hx
    cases e
    refine ⟨b, o + k * n, rfl, hlt, fun j u hu => ?_⟩
    have := hc j u hu
    rw [Nat.add_mul] at this
    rw [Nat.add_assoc o]; exact this
theorem SliceOf.fullA {α : Type} {n : Nat} {C : α → List Value} {w : World} {ao : Option Addr} {len cap : Nat} {l : List α} (h : SliceOf n C w (.slice ao len cap) l) {k : Nat} (hk : k ≤ l.length) : SliceOf n C w (.slice ao k k) (l.take k) := by
  obtain ⟨ao', cap', h1, h2, hm, h3, h4⟩ := h
  cases h1
  refine ⟨ao, k, by rw [List.length_take, Nat.min_eq_left hk], by rw [List.length_take]; omega, by omega, fun e => by have := h3 e; omega, fun i x hx => h4 i x ?_⟩
  rw [List.getElem?_take] at hx
  split at hx
  · exact hx
  · cases hx
theorem SliceOf.capA {α : Type} {n : Nat} {C : α → List Value} {w : World} {ao : Option Addr} {len cap : Nat} {l : List α} (h : SliceOf n C w (.slice ao len cap) l) : l.length ≤ cap ∧ len = l.length ∧ cap ≤ maxLen := by
  obtain ⟨ao', cap', h1, h2, hm, h3, h4⟩ := h
  cases h1
  exact ⟨h2, rfl, hm⟩
theorem own_belowA {α : Type} {B : Nat} {w2 w8 w9 : World} {E n : Nat} {C : α → List Value} {v : Value} {l : List α} (h : Below B w2 w8) (ho : Owns B E n C w8 v l) (hg : w8.grownBy w9 v.ownBlock) (hB : B ≤ w8.heap.size) : Below B w2 w9 := h.grown hg hB (fun j hj => (ho.lt j hj).1)
theorem grown_belowA {w w' : World} (h : w.grownBy w' none) : Below w.heap.size w w' := ⟨h.os, h.tape, h.output, h.size, fun k hk => h.block k hk (by simp)⟩
theorem Owns.litA {base H : Nat} {w : World} (x : Gav) (hH : w.heap.size = H) (hb : base ≤ H) : Owns base 60 3 gavC (w.alloc (.cells #[.string x.group, .string x.artifact, .string x.version] 60)) (.slice (some ⟨H, 0, none⟩) 1 1) [x] := by
  subst hH
  exact World.ownsRow_lit w #[.string x.group, .string x.artifact, .string x.version] 1 hb (by simp [maxLen]) rfl
theorem insG_stop {x : Gav} {l : List Gav} : ∀ {k : Nat}, k ≤ l.length → (∀ y, 0 < k → l[k - 1]? = some y → ltG x y = false) → insG x l k = l.take k ++ x :: l.drop k
  | 0, _, _ => rfl
  | k + 1, hk, h => by
    have h1 := h l[k] (by omega) (List.getElem?_eq_getElem (by omega))
    unfold insG
    rw [List.getElem?_eq_getElem (by omega : k < l.length)]
    simp only [h1, Bool.false_eq_true, if_false]
theorem insG_go {x : Gav} {l : List Gav} {k : Nat} (hk : k < l.length) (h : ltG x l[k] = true) : insG x l (k + 1) = insG x l k := by
  conv => lhs; unfold insG
  rw [List.getElem?_eq_getElem hk]
  simp only [h, if_true]
theorem step_append_fullA {α : Type} {P : Program} {ops : Array Oper} {E : Prop} (w : World) {o : Oper} {a : Act} {K : Act → World → Prop} {Q : Exit → Act → World → Prop} (hgd : o.guard = none) (s x : Operand) (t : TypeId)
    (ho : o.op = .call { callee := .builtin .append, args := #[s, x], argTypes := #[t, t] })
    (e : TypeId) {z : Value} {size bytes : Nat} (ht : P.underlying t = some (.slice e)) (hinfo : (P.info? e).map (fun i => (i.zero, i.size, i.bytes)) = some (some z, size, bytes)) (hzs : z.cells.size = size) (hsz : 0 < size) {C : α → List Value} (hC : ∀ y, (C y).length = size)
    (ao : Option Addr) (len cap : Nat) (l : List α) (hs : a.eval s = .slice ao len cap) (hsl1 : SliceOf size C w (.slice ao len cap) l) (v2 : Value) (l2 : List α) (hx : a.eval x = v2) (hsl : SliceOf size C w v2 l2) (h1 : ∀ y ∈ l2, ∀ u ∈ C y, u.oneCell' = true)
    (hfull : cap < l.length + l2.length) (hl2 : l2 ≠ []) (hbytes : (l.length + l2.length) * bytes ≤ 140737488355328) (hb0 : 0 < bytes)
    (h : ∀ ao' n cap' w', Owns w.heap.size e size C w' (.slice ao' n cap') (l ++ l2) → w.grownBy w' none → K (a.put o.dst (.slice ao' n cap')) w') :
    if Region.wanted o (yielded ops a.tmps) = true then Oper.wp P o a w K Q else E := by
  have hlen63 : l.length + l2.length ≤ maxLen := by
    have : l.length + l2.length ≤ (l.length + l2.length) * bytes := Nat.le_mul_of_pos_right _ hb0
    unfold maxLen; omega
  obtain ⟨i, hi, hz, hsize, hby⟩ := info_parts hinfo
  have cellsOf : ∀ {ao : Option Addr} {len cap : Nat} {l : List α}, SliceOf size C w (.slice ao len cap) l → ∀ ad, ao = some ad → ∀ j u, (l.flatMap C)[j]? = some u → w.cell? (ad.add j) = some u := by
    intro ao len cap l hsl ad hao j u hu
    obtain ⟨ao', cap', hq, -, -, -, hc⟩ := hsl
    cases hq
    subst hao
    obtain ⟨y, hy, hyu⟩ := flat_split hC hsz hu
    obtain ⟨b, o', ha, _, hcell⟩ := hc _ _ hy
    cases ha
    rw [Addr.add_lit]
    have := hcell _ _ hyu
    rwa [Nat.add_assoc, Nat.div_add_mod' j size] at this
  have hs1 := hsl1
  obtain ⟨ao0, cap0, hq, hcap, hm, hn, hc⟩ := hsl1
  cases hq
  have hs2 := hsl
  obtain ⟨ao2, cap2, rfl, hcap2, hm2, hn2, hc2⟩ := hsl
  cases ao2 with
  | none =>
    have h0 : cap2 = 0 := hn2 rfl
    subst h0
    exact absurd (List.eq_nil_of_length_eq_zero (Nat.le_zero.1 hcap2)) hl2
  | some ad =>
    refine step_append_grows hgd s x t ho e i z size bytes ht hi hz hsize hby hzs hsz ao l.length cap (l.flatMap C) hs (fun h0 => ?_) (by rw [flat_len hC]) (fun b hb j u hu => cellsOf hs1 b hb j u hu) ad l2.length cap2 (l2.flatMap C) hx (by rw [flat_len hC]) (fun j u hu => cellsOf hs2 ad rfl j u hu)
      (by intro u hu; obtain ⟨y, hy, huy⟩ := List.mem_flatMap.1 hu; exact h1 y hy u huy) hfull hlen63 hbytes ?_
    · have hc0 := hn h0
      omega
    · intro v' w' h2 h3
      have h2' : Owns w.heap.size e size C w' v' (l ++ l2) := by unfold Owns; rw [List.length_append, List.flatMap_append]; exact h2
      obtain ⟨ao', cap', rfl⟩ := h2'.shape
      exact h ao' _ cap' w' h2' h3

def AllOut (l : List Gav) (w : World) (e : Ending) (w' : World) : Prop := ∃ v', e = .returned v' ∧ Owns w.heap.size 60 3 gavC w' v' l ∧ Below w.heap.size w w'
def inAll (m : List Gav) (x : Gav) : List Gav := insG x m m.length
attribute [local go_sem ↓] sliced_cutA cutA_zero in
set_option maxRecDepth 100000 in
set_option maxHeartbeats 8000000 in
theorem docAll_of (HPT : RefPartsOk) (b : Nat) (vg vt vr va : Value) (gs : List Gav) (w : World) (hx : Box w b [vg, vt, vr, va]) (hs : SliceOf 3 gavC w vg gs) (hl : gs.length ≤ 1000) (hm : ∀ g ∈ gs, g.version.size ≤ 900000) :
    Calls Tryd.prog 30 #[.pointer (some ⟨b, 0, none⟩)] w (AllOut (allG gs) w) := by
  obtain ⟨ao, c, rfl⟩ := hs.shape
  have HA : Hid (∀ (x y : Gav) W, x ∈ gs → y ∈ gs → Calls Tryd.prog 58 #[.agg #[.string x.group, .string x.artifact, .string x.version], .agg #[.string y.group, .string y.artifact, .string y.version]] W fun e w' => e = .returned (.bool (ltG y x)) ∧ Below W.heap.size W w') := fun x y W hx hy => above_of HPT x y W (hm x hx) (hm y hy)
  have HL := Lib.hid hl
  have HS := Lib.hid hs
  have HALL : Hid ((gs.drop 0).foldl inAll [] = allG gs) := rfl
  have x0 := hx.cell 0 _ rfl
  have xl := hx.lt
  clear hx hs hl hm HPT
  go_enter Tryd.func30, Tryd.ntmps30
  go_upto_region 3 with fail
  clear x0 xl
  go_loopw [3, 12] (fun v i wr => ∃ (k : Nat) (m : List Gav) (mo : Option Addr) (mc : Nat), v = .slice mo k mc ∧ i = .int .i64 k ∧ k ≤ gs.length ∧ Hid (m.length = k) ∧ Hid (Below w.heap.size w wr) ∧ Hid (Owns w.heap.size 60 3 gavC wr (.slice mo k mc) m) ∧ Hid ((gs.drop k).foldl inAll m = allG gs) ∧ Hid (∀ y ∈ m, y ∈ gs)) (fun _ i _ => gs.length - (intOf i).toNat)
  case atStart => exact ⟨0, [], none, 0, rfl, rfl, Nat.zero_le _, rfl, Below.refl _ _, Owns.nil, HALL, fun y hy => by cases hy⟩
  case round =>
    obtain ⟨k, m, mo, mc, rfl, rfl, hk, HML, HW, HO, HF, HMEM⟩ := hrel
    clear HALL
    by_cases hlt : k < gs.length
    · obtain ⟨b1, o1, hao, hbl, c0, c1, c2⟩ := (HS.out.below HW.out).atG hlt
      cases hao
      have d1 : (k : Int) < (gs.length : Int) := by omega
      have wk : IntKind.i64.wrap ((k : Int) + 1) = (k : Int) + 1 := IntWalk.i64_in _ (by have := HL.out; omega)
      have HXIN : Hid (gs[k] ∈ gs) := List.getElem_mem hlt
      have HF1 : Hid ((gs.drop (k + 1)).foldl inAll (inAll m gs[k]) = allG gs) := by
        show _ = _
        rw [← HF.out, List.drop_eq_getElem_cons hlt, List.foldl_cons]
      have HKL : Hid (k + 1 ≤ gs.length) := hlt
      generalize gs[k] = x at *
      clear HF hlt
      obtain ⟨xg, xa, xv⟩ := x
      simp only at c0 c1 c2
      go_upto_region 5 with fail
      refine wp_world ?_
      intro W1 hW
      have z1 : Box W1 wr.heap.size [.string xg, .string xa, .string xv] := by rw [hW]; exact Box.new wr [.string xg, .string xa, .string xv] _ _ rfl
      have hb1 : Below wr.heap.size wr W1 := by rw [hW]; exact (Below.refl _ wr).alloc (Nat.le_refl _) _
      clear hW c0 c1 c2 hbl d1
      have HBX := Lib.hid z1
      have HB1 := Lib.hid (HW.out.trans (hb1.mono HW.out.size))
      have HO1 := Lib.hid (HO.out.below hb1)
      clear z1 hb1 HW HO
      generalize wr.heap.size = bx at *
      go_wp2
      go_loopw [6] (fun kv wx => ∃ j : Nat, kv = .int .i64 j ∧ j ≤ k ∧ Hid (Below W1.heap.size W1 wx) ∧ Hid (inAll m ⟨xg, xa, xv⟩ = insG ⟨xg, xa, xv⟩ m j)) (fun kv _ => (intOf kv).toNat)
      case atStart => exact ⟨k, rfl, Nat.le_refl _, Below.refl _ _, by show _ = _; unfold inAll; rw [HML.out]⟩
      case round =>
        obtain ⟨j, rfl, hj, HBJ, HIN⟩ := hrel
        obtain ⟨wo, rfl⟩ : ∃ wo : World, wo = wr := ⟨_, rfl⟩
        have HOJ := Lib.hid (HO1.out.below HBJ.out)
        have HBJ1 := Lib.hid (HB1.out.trans (HBJ.out.mono HB1.out.size))
        have HXJ := Lib.hid (HBX.out.below HBJ.out HBX.out.lt)
        obtain ⟨q, hq⟩ : ∃ q : Bool, q = (match j with | 0 => false | jp + 1 => match m[jp]? with | none => false | some y => ltG ⟨xg, xa, xv⟩ y) := ⟨_, rfl⟩
        have HQ := Lib.hid hq
        clear hq
        go_upto_region 6 with fail
        go_cut [28] from 18 to 27 (fun z wx => z = .bool q ∧ Hid (Below wo.heap.size wo wx))
        case first =>
          by_cases hj0 : 0 < j
          · obtain ⟨jp, rfl⟩ : ∃ jp, j = jp + 1 := ⟨j - 1, by omega⟩
            have hjm : jp < m.length := by have := HML.out; omega
            have HQ2 : Hid (ltG ⟨xg, xa, xv⟩ m[jp] = q) := by show _ = _; rw [HQ.out]; simp only [List.getElem?_eq_getElem hjm]
            have HYIN := Lib.hid (HMEM.out _ (List.getElem_mem hjm))
            have hsl : SliceOf 3 gavC wo (.slice mo k mc) m := HOJ.out.slice (fun _ => rfl)
            obtain ⟨b2, o2, hmo, hbl, c0, c1, c2⟩ := hsl.atG hjm
            cases hmo
            clear hsl
            generalize m[jp] = y at *
            obtain ⟨yg, ya, yv⟩ := y
            simp only at c0 c1 c2
            have HCA : Hid (∀ z : Later wo, Calls Tryd.prog 58 #[.agg #[.string yg, .string ya, .string yv], .agg #[.string xg, .string xa, .string xv]] z.at_ fun e w'' => e = .returned (.bool q) ∧ ∃ u : Later wo, w'' = u.at_) := fun z => by
              have h := HA.out ⟨yg, ya, yv⟩ ⟨xg, xa, xv⟩ z.at_ HYIN.out HXIN.out
              rw [show ltG _ _ = q from HQ2.out] at h
              exact Later.call h
            have x0 := HXJ.out.cell 0 _ rfl
            have x1 := HXJ.out.cell 1 _ rfl
            have x2 := HXJ.out.cell 2 _ rfl
            have xl := HXJ.out.lt
            have g1 : decide ((0 : Int) < (jp : Int) + 1) = true := decide_eq_true (by omega)
            have g2 : (0 : Int) < (jp : Int) + 1 := by omega
            have g3 : IntKind.i64.wrap ((jp : Int) + 1 - 1) = (jp : Int) := by rw [show (jp : Int) + 1 - 1 = (jp : Int) by omega]; exact IntWalk.i64_in _ (by have := HL.out; omega)
            have g4 : IntKind.i64.wrap (jp : Int) = (jp : Int) := IntWalk.i64_in _ (by have := HL.out; omega)
            have g5 : (jp : Int) < (k : Int) := by omega
            have g6 : decide (0 < jp + 1) = true := decide_eq_true (by omega)
            have hLL := @Later.cells wo
            clear HQ2 HQ hjm hj0 HYIN
            refine region_later (by kernel_rfl) (by kernel_rfl) ?_
            repeat (go_big_quiet_step ((go_at_call 58; with_reducible exact HCA.out _)))
            refine wpQuiet_nil ?_
            rintro _ ⟨nx, rfl⟩
            have HB5 := Lib.hid nx.below
            clear hLL x0 x1 x2 xl c0 c1 c2 HCA
            generalize nx.at_ = wq at *
            go_wp2
            go_meet
            case rel => exact ⟨rfl, HB5⟩
          · have g1 : decide ((0 : Int) < (j : Int)) = false := decide_eq_false (by omega)
            have g2 : ¬ (0 : Int) < (j : Int) := by omega
            have g6 : decide (0 < j) = false := decide_eq_false hj0
            have hz : q = false := by
              obtain rfl : j = 0 := by omega
              exact HQ.out
            subst hz
            clear HQ
            have HB5 : Hid (∀ nx : Later wo, Below wo.heap.size wo nx.at_) := fun nx => nx.below
            refine region_later (by kernel_rfl) (by kernel_rfl) ?_
            repeat (go_big_quiet_step (fail))
            refine wpQuiet_nil ?_
            rintro _ ⟨nx, rfl⟩
            have HB6 := Lib.hid (HB5.out nx)
            generalize nx.at_ = wq at *
            go_wp2
            go_meet
            case rel => exact ⟨rfl, HB6⟩
        case rest =>
          obtain ⟨rfl, HBC⟩ := hcut
          have HBJ2 := Lib.hid (HBJ.out.trans (HBC.out.mono HBJ.out.size))
          cases q with
          | true =>
            obtain ⟨jp, rfl, hjm, hlt2⟩ : ∃ jp, j = jp + 1 ∧ ∃ h : jp < m.length, ltG ⟨xg, xa, xv⟩ m[jp] = true := by
              have h1 := HQ.out
              have h2 := HML.out
              change true = _ at h1
              cases j with
              | zero => cases h1
              | succ jp =>
                have hjm : jp < m.length := by omega
                simp only [List.getElem?_eq_getElem hjm] at h1
                exact ⟨jp, rfl, hjm, h1.symm⟩
            have HIN2 : Hid (inAll m ⟨xg, xa, xv⟩ = insG ⟨xg, xa, xv⟩ m jp) := by show _ = _; rw [HIN.out, insG_go hjm hlt2]
            have HJK : Hid (jp ≤ k) := by have h : jp + 1 ≤ k := hj; show _ ≤ _; omega
            have hjk0 : jp ≤ 1000 := by have h1 := HL.out; have h2 : jp + 1 ≤ k := hj; omega
            have g3 : IntKind.i64.wrap ((jp : Int) + 1 - 1) = (jp : Int) := by rw [show (jp : Int) + 1 - 1 = (jp : Int) by omega]; exact IntWalk.i64_in _ (by have := HL.out; omega)
            have g4 : IntKind.i64.wrap (jp : Int) = (jp : Int) := IntWalk.i64_in _ (by have := HL.out; omega)
            clear HQ hlt2 hjm HIN hj HOJ HXJ
            go_wp2
            go_roundw
            case rel => exact ⟨jp, by first | rfl | go_num, HJK.out, HBJ2, HIN2⟩
            case measure => simp [intOf]
          | false =>
            have HEQ : Hid (inAll m ⟨xg, xa, xv⟩ = m.take j ++ ⟨xg, xa, xv⟩ :: m.drop j) := by
              show _ = _
              rw [HIN.out]
              refine insG_stop (by have := HML.out; omega) fun y h0 hy => ?_
              have h1 := HQ.out
              change false = _ at h1
              cases j with
              | zero => omega
              | succ jp =>
                simp only [Nat.add_sub_cancel] at hy
                simp only [hy] at h1
                exact h1.symm
            have HBW := Lib.hid (HB1.out.trans (HBJ2.out.mono HB1.out.size))
            have HOW := Lib.hid (HO1.out.below HBJ2.out)
            have hxw := HBX.out.below HBJ2.out HBX.out.lt
            have x0 := hxw.cell 0 _ rfl
            have x1 := hxw.cell 1 _ rfl
            have x2 := hxw.cell 2 _ rfl
            have xl := hxw.lt
            clear hxw HQ HIN HOJ HXJ HBJ HBC HBJ1 HBJ2 HO1 HB1 HBX
            obtain ⟨wn, hwn⟩ : ∃ wn : World, wn = wc := ⟨_, rfl⟩
            rw [← hwn] at HBW HOW x0 x1 x2 xl
            subst hwn
            have HJM : Hid (j ≤ m.length) := by have := HML.out; show _ ≤ _; omega
            have HAL : Hid (Below wn.heap.size wn (wn.drew.alloc (.cells #[.string xg, .string xa, .string xv] 60))) := (belowN (Below.refl _ wn) 1).trans ((Below.refl _ wn.drew).alloc (Nat.le_refl _) _)
            have HOE : Hid (Owns wn.heap.size 60 3 gavC (wn.drew.alloc (.cells #[.string xg, .string xa, .string xv] 60)) (.slice (some ⟨wn.heap.size, 0, none⟩) 1 1) [(⟨xg, xa, xv⟩ : Gav)]) := Owns.litA (w := wn.drew) ⟨xg, xa, xv⟩ rfl (Nat.le_refl _)
            have HT1 : Hid (∀ V, Below wn.heap.size wn V → SliceOf 3 gavC V (.slice mo j j) (m.take j)) := fun V h => ((HOW.out.slice (fun _ => rfl)).below h).fullA HJM.out
            have HT2 : Hid (∀ V, Below wn.heap.size wn V → SliceOf 3 gavC V (.slice (cutA mo j mc 3) (k - j) (mc - j)) (m.drop j)) := fun V h => ((HOW.out.slice (fun _ => rfl)).below h).cutA HJM.out
            obtain ⟨hcp, -, hcm⟩ := (HOW.out.slice (fun _ => rfl)).capA
            rw [show m.length = k from HML.out] at hcp
            have hb0 : (0 : Int) ≤ (j : Int) := by omega
            have hb1 : (j : Int) ≤ (mc : Int) := by omega
            have hb2 : (j : Int) ≤ (k : Int) := by omega
            have hb3 : (k : Int) ≤ (mc : Int) := by omega
            have hb5 : j ≤ mc := by omega
            have HB1 : Hid ((m.take j).length = j ∧ (m.drop j).length = k - j) := by
              have h1 := HML.out
              rw [List.length_take, List.length_drop]; exact ⟨by omega, by omega⟩
            have HFU : Hid (j < (m.take j).length + ([(⟨xg, xa, xv⟩ : Gav)] ++ m.drop j).length) := by
              have h1 := HB1.out
              show _ < _
              rw [List.length_append, List.length_singleton]
              omega
            have HBY : Hid (((m.take j).length + ([(⟨xg, xa, xv⟩ : Gav)] ++ m.drop j).length) * 48 ≤ 140737488355328) := by
              have h1 := HB1.out
              have h2 := HL.out
              show _ ≤ _
              rw [List.length_append, List.length_singleton]
              omega
            go_upto_region 8 with fail
            go_region_law (first | (refine step_append_slice _ rfl (.tmp 36) (.tmp 39) 55 rfl wn.heap.size 60 Tryd.underlying55 info_gavP rfl (by decide) gavC_lenP (.slice (some ⟨wn.heap.size, 0, none⟩) 1 1) [(⟨xg, xa, xv⟩ : Gav)] (by simp [Act.eval]) HOE.out (.slice (cutA mo j mc 3) (k - j) (mc - j)) (m.drop j) (by simp [Act.eval]) (HT2.out _ HAL.out) (gavC_onesP _) (by have h1 := HB1.out.2; have h2 := HL.out; simp only [List.length_singleton]; omega) (by decide) (by simp) ?_; intro a8 n8 c8 w8 ho8 hg8; have HO8 := Lib.hid ho8; have HG8 : Hid (Below wn.heap.size wn w8) := own_belowA HAL.out HOE.out hg8 (by simp); clear ho8 hg8) | (refine step_append_fullA _ rfl (.tmp 34) (.tmp 40) 55 rfl 60 Tryd.underlying55 info_gavP rfl (by decide) gavC_lenP mo j j (m.take j) (by simp [Act.eval]) (HT1.out _ HG8.out) (.slice a8 n8 c8) ([(⟨xg, xa, xv⟩ : Gav)] ++ m.drop j) (by simp [Act.eval]) (HO8.out.slice gavC_lenP) (gavC_onesP _) HFU.out (List.cons_ne_nil _ _) HBY.out (by decide) ?_; intro a9 n9 c9 w9 ho9 hg9; have HO9 := Lib.hid ho9; have HG9 : Hid (Below wn.heap.size wn w9) := HG8.out.trans ((grown_belowA hg9).mono HG8.out.size); clear ho9 hg9))
            all_goals
              have HN9 : Hid (n9 = k + 1) := by
                obtain ⟨_, _, e⟩ := HO9.out.shape
                cases e
                have h1 := HB1.out
                show _ = _
                rw [List.length_append, List.length_append, List.length_singleton]
                omega
              have HEQ9 : Hid (m.take j ++ ([(⟨xg, xa, xv⟩ : Gav)] ++ m.drop j) = inAll m ⟨xg, xa, xv⟩) := HEQ.out.symm
              have HO10 : Hid (Owns w.heap.size 60 3 gavC w9 (.slice a9 (k + 1) c9) (inAll m ⟨xg, xa, xv⟩)) := by
                show Owns _ _ _ _ _ _ _
                rw [← HEQ9.out, ← HN9.out]
                exact HO9.out.base_mono (by have h1 := HBW.out.size; have h2 := HG8.out.size; omega)
              have HB10 := Lib.hid (HBW.out.trans (HG9.out.mono HBW.out.size))
              have HL10 : Hid ((inAll m (⟨xg, xa, xv⟩ : Gav)).length = k + 1) := by
                show _ = _
                rw [← HEQ9.out, List.length_append, List.length_append, List.length_singleton]
                have h1 := HB1.out; omega
              have HM10 : Hid (∀ y ∈ inAll m (⟨xg, xa, xv⟩ : Gav), y ∈ gs) := by
                show ∀ y ∈ _, _
                rw [← HEQ9.out]
                intro y hy
                rcases List.mem_append.1 hy with h | h
                · exact HMEM.out y (List.mem_of_mem_take h)
                · rcases List.mem_append.1 h with h | h
                  · rw [List.mem_singleton.1 h]; exact HXIN.out
                  · exact HMEM.out y (List.mem_of_mem_drop h)
              obtain rfl := HN9.out
              clear HEQ HEQ9 HO9 HO8 HG8 HG9 HAL HOE HT1 HT2 HB1 HOW HBW HMEM HA
              clear hb0 hb1 hb2 hb3 hb5 hcp hcm x0 x1 x2 xl
              go_wp2
              go_roundw
              case rel => exact ⟨k + 1, _, a9, c9, rfl, by first | rfl | go_num, HKL.out, HL10, HB10, HO10, HF1, HM10⟩
              case measure => simp [intOf]; have := HKL.out; omega
    · obtain rfl : k = gs.length := by omega
      have d1 : ¬ (gs.length : Int) < (gs.length : Int) := by omega
      have HR : Hid (m = allG gs) := by show _ = _; rw [← HF.out, List.drop_length]; rfl
      clear HF HMEM
      go_wp2
      go_ret
      exact ⟨_, rfl, by rw [← HR.out]; exact HO.out, HW.out⟩

end Go.Proofs.YtecffghcpknmjaaDoor

/- The walk of the document's Versions; the conditions stand in the theorem. -/
namespace Go.Proofs.YtecffghcpknmjaaDoor
open Go Go.RowKit

theorem verOf_take {l : List Gav} {k : Nat} (h : k < l.length) (x : Id) : verOf (l.take (k + 1)) x = verOf (l.take k) x ++ if idOf l[k] = x then [l[k].version] else [] := by
  unfold verOf
  rw [List.take_add_one, List.getElem?_eq_getElem h, List.filter_append, List.map_append]
  by_cases h2 : idOf l[k] = x <;> simp [h2]
theorem verOf_lenT (l : List Gav) (x : Id) (k : Nat) : (verOf (l.take k) x).length ≤ k := by
  unfold verOf
  rw [List.length_map]
  refine Nat.le_trans (List.length_filter_le _ _) ?_
  rw [List.length_take]
  omega
theorem allG_len (l : List Gav) : (allG l).length = l.length := ((allG_spec l).2.perm ltG_weak).length_eq.symm
def DocVersOut (l : List S) (w : World) (e : Ending) (w' : World) : Prop := ∃ v', e = .returned v' ∧ Owns w.heap.size 9 1 strC w' v' l ∧ Below w.heap.size w w'
set_option maxRecDepth 100000 in
set_option maxHeartbeats 4000000 in
theorem docVersions_of (HPT : RefPartsOk) (x : Id) (b : Nat) (vg vt vr va : Value) (gs : List Gav) (w : World) (hx : Box w b [vg, vt, vr, va]) (hs : SliceOf 3 gavC w vg gs) (hl : gs.length ≤ 1000) (hm : ∀ g ∈ gs, g.version.size ≤ 900000) :
    Calls Tryd.prog 9 #[.pointer (some ⟨b, 0, none⟩), .agg #[.string x.group, .string x.artifact]] w (DocVersOut (verOf (allG gs) x) w) := by
  have HALL : Hid (∀ W, Below w.heap.size w W → Calls Tryd.prog 30 #[.pointer (some ⟨b, 0, none⟩)] W (AllOut (allG gs) W)) := fun W hb => docAll_of HPT b _ _ _ _ gs W (hx.below hb hx.lt) (hs.below hb) hl hm
  have HL : Hid ((allG gs).length ≤ 1000) := by show _ ≤ _; rw [allG_len]; exact hl
  clear hx hs hl hm HPT
  generalize allG gs = l at *
  obtain ⟨xg, xa⟩ := x
  simp only
  go_enter Tryd.func9, Tryd.ntmps9
  go_upto_region 1 with fail
  refine wp_world ?_
  intro W hW
  have x1 : Box W w.heap.size [.string xg, .string xa] := by rw [hW]; exact Box.new w [.string xg, .string xa] _ _ rfl
  have hb : Below w.heap.size w W := by rw [hW]; exact (Below.refl _ w).alloc (Nat.le_refl _) _
  clear hW
  have HX := Lib.hid x1
  have HB := Lib.hid hb
  clear x1 hb
  go_wp2_with fail
  refine (HALL.out W HB.out).mono ?_
  rintro e w1 ⟨v', rfl, ho, hb1⟩
  obtain ⟨lo, lc, rfl⟩ := ho.shape
  have HX1 := Lib.hid (HX.out.below hb1 HX.out.lt)
  have HB1 := Lib.hid (HB.out.trans (hb1.mono HB.out.size))
  have HSL := Lib.hid (ho.slice (fun _ => rfl))
  clear ho hb1 HX HB HALL
  go_wp2
  go_loopw [5, 11] (fun v i wr => ∃ (k n : Nat) (mo : Option Addr) (mc : Nat), v = .slice mo n mc ∧ i = .int .i64 k ∧ k ≤ l.length ∧ Hid (Below w1.heap.size w1 wr) ∧ Hid (Owns w1.heap.size 9 1 strC wr (.slice mo n mc) (verOf (l.take k) ⟨xg, xa⟩))) (fun _ i _ => l.length - (intOf i).toNat)
  case atStart => exact ⟨0, 0, none, 0, rfl, rfl, Nat.zero_le _, Below.refl _ _, Owns.nil⟩
  case round =>
    obtain ⟨k, n, mo, mc, rfl, rfl, hk, HW, HO⟩ := hrel
    by_cases hlt : k < l.length
    · obtain ⟨b1, o1, hao, hbl, c0, c1, c2⟩ := (HSL.out.below HW.out).atG hlt
      cases hao
      have d1 : (k : Int) < (l.length : Int) := by omega
      have wk : IntKind.i64.wrap ((k : Int) + 1) = (k : Int) + 1 := IntWalk.i64_in _ (by have := HL.out; omega)
      have HV := Lib.hid (verOf_take hlt ⟨xg, xa⟩)
      have HKL : Hid (k + 1 ≤ l.length) := hlt
      generalize l[k] = y at *
      clear hlt
      obtain ⟨yg, ya, yv⟩ := y
      simp only [idOf, Id.mk.injEq] at c0 c1 c2 HV
      go_upto_region 5 with fail
      refine wp_world ?_
      intro W1 hW
      have z1 : Box W1 wr.heap.size [.string yg, .string ya, .string yv] := by rw [hW]; exact Box.new wr [.string yg, .string ya, .string yv] _ _ rfl
      have hb1 : Below wr.heap.size wr W1 := by rw [hW]; exact (Below.refl _ wr).alloc (Nat.le_refl _) _
      clear hW c0 c1 c2 hbl d1
      have HW1 := Lib.hid (HW.out.trans (hb1.mono HW.out.size))
      have HO1 := Lib.hid (HO.out.below hb1)
      have hxw := HX1.out.below HW1.out HX1.out.lt
      have x0 := hxw.cell 0 _ rfl
      have x1 := hxw.cell 1 _ rfl
      have xl := hxw.lt
      have z0 := z1.cell 0 _ rfl
      have z2 := z1.cell 1 _ rfl
      have z3 := z1.cell 2 _ rfl
      have zl := z1.lt
      clear hxw z1 hb1 HW HO
      by_cases hg : yg = xg
      · have e1 : (yg.toList == xg.toList) = true := by rw [str_beqV]; exact decide_eq_true hg
        have HG := Lib.hid hg
        clear hg
        by_cases ha : ya = xa
        · have e2 : (ya.toList == xa.toList) = true := by rw [str_beqV]; exact decide_eq_true ha
          have HVN : Hid (verOf (l.take (k + 1)) ⟨xg, xa⟩ = verOf (l.take k) ⟨xg, xa⟩ ++ [yv]) := by show _ = _; rw [HV.out, if_pos ⟨HG.out, ha⟩]
          clear HV ha
          have HN : Hid (SliceOf 1 strC (W1.alloc (.cells #[.string yv] 9)) (.slice (some ⟨W1.heap.size, 0, none⟩) 1 1) [yv]) := by
            show SliceOf _ _ _ _ _
            simpa [strC] using sliceLit strC_lV W1 [yv] 9 W1.heap.size 1 rfl rfl (by simp [maxLen])
          have HBA : Hid (Below W1.heap.size W1 (W1.alloc (.cells #[.string yv] 9))) := (Below.refl _ W1).alloc (Nat.le_refl _) _
          have HOA := Lib.hid (HO1.out.below HBA.out)
          have hnl : n = (verOf (l.take k) ⟨xg, xa⟩).length := by obtain ⟨_, _, e⟩ := HO1.out.shape; cases e; rfl
          have HNL := Lib.hid hnl
          have HLK := Lib.hid (verOf_lenT l ⟨xg, xa⟩ k)
          clear hnl
          generalize verOf (l.take k) ⟨xg, xa⟩ = vl at *
          go_upto_region 7 with (at_builtin; go_loud (refine wpList_append_slice _ rfl _ _ 29 rfl w1.heap.size 9 Tryd.underlying29 info_str rfl (by decide) strC_lV (.slice mo n mc) vl rfl HOA.out _ [yv] rfl HN.out (strC_onesV _) (by have h1 := HL.out; have h2 := HLK.out; have h3 := HKL.out; simp only [List.length_singleton]; omega) (by decide) (by have h1 := HW1.out.size; have h2 := HBA.out.size; omega) ?_; intro v8 w8 ho8 hg8 hl8; obtain ⟨a8, c8, hv8⟩ := ho8.shape; subst hv8; rw [List.length_append, List.length_singleton] at ho8; have HO8 := Lib.hid ho8; have HG8 := Lib.hid (own_belowA (HW1.out.trans (HBA.out.mono HW1.out.size)) HOA.out hg8 (by have h1 := HW1.out.size; have h2 := HBA.out.size; omega)); clear ho8 hg8 hl8))
          obtain rfl := HNL.out
          clear HN HBA HOA
          go_wp2
          go_roundw
          case rel => exact ⟨k + 1, vl.length + 1, a8, c8, rfl, by first | rfl | go_num, HKL.out, HG8, by show Owns _ _ _ _ _ _ _; rw [HVN.out]; exact HO8.out⟩
          case measure => simp [intOf]; have := HKL.out; omega
        · have e2 : (ya.toList == xa.toList) = false := by rw [str_beqV]; exact decide_eq_false ha
          have HVN : Hid (verOf (l.take (k + 1)) ⟨xg, xa⟩ = verOf (l.take k) ⟨xg, xa⟩) := by show _ = _; rw [HV.out, if_neg (fun h => ha h.2)]; simp
          clear HV
          go_wp2
          go_roundw
          case rel => exact ⟨k + 1, n, mo, mc, rfl, by first | rfl | go_num, HKL.out, HW1, by show Owns _ _ _ _ _ _ _; rw [HVN.out]; exact HO1.out⟩
          case measure => simp [intOf]; have := HKL.out; omega
      · have e1 : (yg.toList == xg.toList) = false := by rw [str_beqV]; exact decide_eq_false hg
        have HVN : Hid (verOf (l.take (k + 1)) ⟨xg, xa⟩ = verOf (l.take k) ⟨xg, xa⟩) := by show _ = _; rw [HV.out, if_neg (fun h => hg h.1)]; simp
        clear HV
        go_wp2
        go_roundw
        case rel => exact ⟨k + 1, n, mo, mc, rfl, by first | rfl | go_num, HKL.out, HW1, by show Owns _ _ _ _ _ _ _; rw [HVN.out]; exact HO1.out⟩
        case measure => simp [intOf]; have := HKL.out; omega
    · obtain rfl : k = l.length := by omega
      have d1 : ¬ (l.length : Int) < (l.length : Int) := by omega
      have HR := Lib.hid HO.out
      rw [List.take_length] at HR
      clear HO
      go_wp2
      go_ret
      exact ⟨_, rfl, HR.out.base_mono (by have := HB1.out.size; omega), HB1.out.trans (HW.out.mono HB1.out.size)⟩

end Go.Proofs.YtecffghcpknmjaaDoor

/- Both stores of the same projects, in memory: what both Puts leave; the conditions stand in the theorems. -/
namespace Go.Proofs.YtecffghcpknmjaaDoor
open Go Go.RowKit

theorem DocIn.narrow {G : Nat → Prop} {w : World} {b : Nat} {vg vt vr : Value} {gs : List Gav} {ts : List S} {rs : List Bool} (h : DocIn G w b vg vt vr gs ts rs) : DocIn (fun k => G k ∧ k < w.heap.size) w b vg vt vr gs ts rs :=
  ⟨h.box, h.g, h.t, h.r, ⟨h.gb, h.box.lt⟩, fun j hj => ⟨⟨(h.gg j hj).1, (h.g.lt j hj).2⟩, (h.gg j hj).2⟩, fun j hj => ⟨⟨(h.gt j hj).1, (h.t.lt j hj).2⟩, (h.gt j hj).2⟩, fun j hj => ⟨⟨(h.gr j hj).1, (h.r.lt j hj).2⟩, (h.gr j hj).2⟩, h.gtA, h.grA, h.trA⟩
def gavsOf (es : List (SEnt × Nat)) : List Gav := es.map fun e => e.1.gav
/-- Two stores of the same projects, in blocks of their own, all made behind B. -/
structure PairIn (B : Nat) (w : World) (bs bd : Nat) (es : List (SEnt × Nat)) (F G : Nat → Prop) (vg vt vr : Value) (ts : List S) (rs : List Bool) : Prop where
  st : StoreAt F w bs es 0 0
  fr : FreshAt w es
  doc : DocIn G w bd vg vt vr (gavsOf es) ts rs
  fg : ∀ k, F k → ¬ G k
  gl : ∀ k, G k → k < w.heap.size
  fB : ∀ k, F k → B ≤ k
  gB : ∀ k, G k → B ≤ k
  tl : ts.length ≤ es.length
  rl : rs.length ≤ es.length
  may : ∀ g ∈ gavsOf es, gavMay g = true
def PairAt (B : Nat) (w : World) (bs bd : Nat) (es : List (SEnt × Nat)) : Prop := ∃ F G vg vt vr ts rs, PairIn B w bs bd es F G vg vt vr ts rs
theorem PairAt.below {B : Nat} {w w' : World} {bs bd : Nat} {es : List (SEnt × Nat)} (h : PairAt B w bs bd es) (hb : Below w.heap.size w w') : PairAt B w' bs bd es := by
  obtain ⟨F, G, vg, vt, vr, ts, rs, h⟩ := h
  exact ⟨F, G, vg, vt, vr, ts, rs, h.st.below hb, h.fr.below hb, h.doc.below hb, h.fg, fun k hk => Nat.lt_of_lt_of_le (h.gl k hk) hb.size, h.fB, h.gB, h.tl, h.rl, h.may⟩
theorem hasG_mem {es : List (SEnt × Nat)} {g : Gav} : hasG es g = decide (g ∈ gavsOf es) := by
  unfold hasG gavsOf
  rw [Bool.eq_iff_iff, decide_eq_true_iff, List.find?_isSome, List.mem_map]
  constructor
  · rintro ⟨x, hx, h⟩
    exact ⟨x, hx, (of_decide_eq_true h).symm⟩
  · rintro ⟨x, hx, h⟩
    exact ⟨x, hx, decide_eq_true h.symm⟩
theorem putG_iff {es : List (SEnt × Nat)} {g : Gav} : putG (gavsOf es) g = decide (putE es g = 0) := by
  unfold putG putE
  rw [hasG_mem]
  have hl : (gavsOf es).length = es.length := List.length_map ..
  rw [hl]
  cases gavMay g with
  | false => simp
  | true =>
    by_cases h1 : g ∈ gavsOf es
    · simp [h1]
    · by_cases h2 : 1024 ≤ es.length
      · simp [h1, h2]
      · simp [h1, h2]; omega
/-- The program's Put, then the document's. -/
theorem PairIn.step {B : Nat} {w w1 w2 : World} {bs bd : Nat} {es : List (SEnt × Nat)} {F G : Nat → Prop} {vg vt vr : Value} {ts : List S} {rs : List Bool} {g : Gav} {s : S} {e : Ending} (h : PairIn B w bs bd es F G vg vt vr ts rs) (hw : B ≤ w.heap.size)
    (hp : PutFOut F bs es 0 0 g s w e w1) (hd : DocOut G bd (gavsOf es) g w1 w2) : ∃ es', PairAt B w2 bs bd es' ∧ es'.length ≤ es.length + 1 ∧ Below B w w2 := by
  obtain ⟨-, ho, F', es', h1, h2, h3, h4, h5⟩ := hp
  obtain ⟨o2, G', vg', vt', vr', ts', rs', d1, d2, d3, d4⟩ := hd
  have hf1 := h5 h.fr
  have s1 := ho.size
  have s2 := o2.size
  have hFG : ∀ k, F' k → ¬ G k := fun k hk hg => by
    have := h.gl k hg
    exact h.fg k (h2 k this hk) hg
  obtain ⟨me, mv, L, cl, V, cv, hst⟩ := h1
  have hF1 := hst.lt
  have hf2 : FreshAt w2 es' := hf1.only o2 fun x hx => hFG _ (hst.own.2.2.2 x hx)
  have hst2 := hst.only o2 hFG (hf2.ent F')
  have hgv : (if putG (gavsOf es) g = true then gavsOf es ++ [g] else gavsOf es) = gavsOf es' := by
    rw [putG_iff]
    by_cases h0 : putE es g = 0
    · obtain ⟨eb, he⟩ := h4 h0
      rw [if_pos (decide_eq_true h0), he]
      simp [gavsOf, freshE]
    · rw [if_neg (by simpa using h0), h3 h0]
  have hlen : es'.length ≤ es.length + 1 := by
    by_cases h0 : putE es g = 0
    · obtain ⟨eb, he⟩ := h4 h0
      rw [he]; simp
    · rw [h3 h0]; omega
  have hmay : ∀ x ∈ gavsOf es', gavMay x = true := fun x hx => by
    rw [← hgv] at hx
    by_cases hpg : putG (gavsOf es) g = true
    · rw [if_pos hpg] at hx
      rcases List.mem_append.1 hx with hx | hx
      · exact h.may x hx
      · rw [List.mem_singleton.1 hx]
        unfold putG at hpg
        exact (Bool.and_eq_true_iff.1 hpg).1
    · rw [if_neg hpg] at hx
      exact h.may x hx
  rw [hgv] at d1 d3 d4
  have hl' : (gavsOf es').length = es'.length := List.length_map ..
  rw [hl'] at d3 d4
  refine ⟨es', ⟨F', _, vg', vt', vr', ts', rs', ⟨me, mv, L, cl, V, cv, hst2⟩, hf2, d1.narrow, ?_, fun k hk => hk.2, ?_, ?_, d3, d4, hmay⟩, hlen, (ho.below hw h.fB).trans (o2.below (Nat.le_trans hw s1) h.gB)⟩
  · rintro k hk ⟨hg, -⟩
    exact hFG k hk (d2 k (hF1 k hk) hg)
  · intro k hk
    by_cases hk' : k < w.heap.size
    · exact h.fB k (h2 k hk' hk)
    · omega
  · rintro k ⟨hk, -⟩
    by_cases hk' : k < w1.heap.size
    · exact h.gB k (d2 k hk' hk)
    · omega

end Go.Proofs.YtecffghcpknmjaaDoor

/- The walk of Fill: both stores of the same projects; the conditions stand in the theorem. -/
namespace Go.Proofs.YtecffghcpknmjaaDoor
open Go Go.RowKit

/-- A project and its text, as a statement's argument. -/
def inC (p : Gav × S) : List Value := [.string p.1.group, .string p.1.artifact, .string p.1.version, .string p.2]
theorem SliceOf.atE {w : World} {ao : Option Addr} {len cap : Nat} {l : List (Gav × S)} (h : SliceOf 4 inC w (.slice ao len cap) l) {k : Nat} (hk : k < l.length) :
    ∃ b o, ao = some ⟨b, o, none⟩ ∧ b < w.heap.size ∧ w.cell? ⟨b, o + k * 4, none⟩ = some (.string l[k].1.group) ∧ w.cell? ⟨b, o + k * 4 + 1, none⟩ = some (.string l[k].1.artifact) ∧ w.cell? ⟨b, o + k * 4 + 2, none⟩ = some (.string l[k].1.version) ∧ w.cell? ⟨b, o + k * 4 + 3, none⟩ = some (.string l[k].2) := by
  obtain ⟨ao', cap', h1, h2, hm, h3, h4⟩ := h
  cases h1
  obtain ⟨b, o, e, hlt, hc⟩ := h4 k l[k] (List.getElem?_eq_getElem hk)
  exact ⟨b, o, e, hlt, hc 0 _ rfl, hc 1 _ rfl, hc 2 _ rfl, hc 3 _ rfl⟩
theorem StoreAt.bound {F : Nat → Prop} {w : World} {b : Nat} {es : List (SEnt × Nat)} {r a : Int} (h : StoreAt F w b es r a) : ∀ k, F k → k < w.heap.size := by
  obtain ⟨_, _, _, _, _, _, h⟩ := h
  exact h.lt
/-- Two empty stores. -/
theorem pair_new {w w1 W : World} {bs : Nat} {F : Nat → Prop} (h : StoreAt F w1 bs [] 0 0) (hF : ∀ k, F k → w.heap.size ≤ k) (hs : w.heap.size ≤ w1.heap.size) (hb : Below w1.heap.size w1 W) (hx : Box W w1.heap.size [.slice none 0 0, .slice none 0 0, .slice none 0 0, .int .i64 0]) : PairAt w.heap.size W bs w1.heap.size [] :=
  ⟨F, fun k => k = w1.heap.size, .slice none 0 0, .slice none 0 0, .slice none 0 0, [], [], h.below hb, fun e he => by (cases he),
    ⟨hx, Owns.nil, Owns.nil, Owns.nil, rfl, fun j hj => by (cases hj), fun j hj => by (cases hj), fun j hj => by (cases hj), fun j hj => by (cases hj), fun j hj => by (cases hj), fun j hj => by (cases hj)⟩,
    fun k hk e => by have := h.bound k hk; omega, fun k e => by have := hx.lt; omega, hF, fun k e => by omega, Nat.le_refl _, Nat.le_refl _, fun g hg => by (cases hg)⟩
def FillOut (w : World) (e : Ending) (w' : World) : Prop := ∃ bs bd es, e = .returned (.tuple #[.pointer (some ⟨bs, 0, none⟩), .pointer (some ⟨bd, 0, none⟩)]) ∧ PairAt w.heap.size w' bs bd es ∧ es.length ≤ 40 ∧ Below w.heap.size w w'
set_option maxRecDepth 100000 in
set_option maxHeartbeats 4000000 in
theorem fill_of (HRM : RefMayOk) (v : Value) (l : List (Gav × S)) (w : World) (h : SliceOf 4 inC w v l) (hz : ∀ p ∈ l, gavSm p.1) : Calls Tryd.prog 7 #[v] w (FillOut w) := by
  obtain ⟨lo, lc, rfl⟩ := h.shape
  have HML : Hid (l.length ≤ 9223372036854775807) := by obtain ⟨_, _, e, h2, h3, _⟩ := h; show _ ≤ _; unfold maxLen at h3; omega
  have HS := Lib.hid h
  have HZ := Lib.hid hz
  clear h hz
  go_enter Tryd.func7, Tryd.ntmps7
  go_wp2_with fail
  refine (new_any w).mono ?_
  rintro e w1 ⟨bs, F, rfl, hst, hF, hb1⟩
  have HST := Lib.hid hst
  have HF := Lib.hid hF
  have HB1 := Lib.hid hb1
  clear hst hF hb1
  unfold ptr
  go_upto_region 2 with fail
  refine wp_world ?_
  intro W hW
  have x1 : Box W w1.heap.size [.slice none 0 0, .slice none 0 0, .slice none 0 0, .int .i64 0] := by rw [hW]; exact Box.new w1 [.slice none 0 0, .slice none 0 0, .slice none 0 0, .int .i64 0] _ _ rfl
  have hb : Below w1.heap.size w1 W := by rw [hW]; exact (Below.refl _ w1).alloc (Nat.le_refl _) _
  clear hW
  have HP0 := Lib.hid (pair_new HST.out HF.out HB1.out.size hb x1)
  have HB := Lib.hid (HB1.out.trans (hb.mono HB1.out.size))
  clear x1 hb HST HF HB1
  generalize w1.heap.size = bd at *
  go_wp2
  go_loopw [13] (fun i wr => ∃ (k : Nat) (es : List (SEnt × Nat)), i = .int .i64 k ∧ k ≤ l.length ∧ Hid (PairAt w.heap.size wr bs bd es) ∧ Hid (es.length ≤ k) ∧ Hid (es.length ≤ 40) ∧ Hid (Below w.heap.size w wr)) (fun i _ => l.length - (intOf i).toNat)
  case atStart => exact ⟨0, [], rfl, Nat.zero_le _, HP0, Nat.le_refl _, Nat.zero_le _, HB⟩
  case round =>
    clear HP0 HB
    obtain ⟨k, es, rfl, hk, HP, HE1, HE2, HW⟩ := hrel
    by_cases hlt : k < l.length
    · obtain ⟨b1, o1, hao, hbl, c0, c1, c2, c3⟩ := (HS.out.below HW.out).atE hlt
      cases hao
      have d1 : (k : Int) < (l.length : Int) := by omega
      have wk : IntKind.i64.wrap ((k : Int) + 1) = (k : Int) + 1 := IntWalk.i64_in _ (by have := HML.out; omega)
      have HG := Lib.hid (HZ.out _ (List.getElem_mem hlt))
      have HKL : Hid (k + 1 ≤ l.length) := hlt
      generalize l[k] = y at *
      clear hlt
      obtain ⟨⟨yg, ya, yv⟩, ys⟩ := y
      simp only at c0 c1 c2 c3 HG
      go_upto_region 5 with fail
      refine wp_world ?_
      intro W1 hW
      have z1 : Box W1 wr.heap.size [.string yg, .string ya, .string yv, .string ys] := by rw [hW]; exact Box.new wr [.string yg, .string ya, .string yv, .string ys] _ _ rfl
      have hb1 : Below wr.heap.size wr W1 := by rw [hW]; exact (Below.refl _ wr).alloc (Nat.le_refl _) _
      clear hW c0 c1 c2 c3 hbl d1
      have HW1 := Lib.hid (HW.out.trans (hb1.mono HW.out.size))
      obtain ⟨F, G, vg, vt, vr, ts, rs, hp⟩ := HP.out
      have hw1 := hp.st.bound
      have HFX : Hid (¬ F wr.heap.size) := fun e => by have := hw1 _ e; omega
      have HP1 := Lib.hid (HP.out.below hb1)
      have HP4 : Hid (PairIn w.heap.size W1 bs bd es F G vg vt vr ts rs) := ⟨hp.st.below hb1, hp.fr.below hb1, hp.doc.below hb1, hp.fg, fun k hk => Nat.lt_of_lt_of_le (hp.gl k hk) hb1.size, hp.fB, hp.gB, hp.tl, hp.rl, hp.may⟩
      have HZX := Lib.hid z1
      have z0 := z1.cell 0 _ rfl
      have z2 := z1.cell 1 _ rfl
      have z3 := z1.cell 2 _ rfl
      have z4 := z1.cell 3 _ rfl
      have zl := z1.lt
      clear hp hw1 z1 hb1 HP HW
      generalize wr.heap.size = bx at *
      by_cases h40 : k < 40
      · have e1 : decide ((k : Int) < 40) = true := decide_eq_true (by omega)
        have e1p : (k : Int) < 40 := by omega
        have e1n : decide (k < 40) = true := decide_eq_true h40
        by_cases hsz : ys.size ≤ 3000
        · have e2 : decide ((ys.size : Int) ≤ 3000) = true := decide_eq_true (by omega)
          have e2p : (ys.size : Int) ≤ 3000 := by omega
          have e2n : decide (ys.size ≤ 3000) = true := decide_eq_true hsz
          have H40 := Lib.hid h40
          clear h40 hsz
          go_wp2_with fail
          refine (putF_any ⟨yg, ya, yv⟩ ys W1 HP4.out.st HG.out).mono ?_
          intro e w2 hp
          have HPO := Lib.hid hp
          have he := hp.1
          have HO2 := Lib.hid hp.2.1
          clear hp
          subst he
          generalize putE es ⟨yg, ya, yv⟩ = pe at *
          have HX2 := Lib.hid (HZX.out.only HO2.out HFX.out)
          have HD2 : Hid (DocIn G w2 bd vg vt vr (gavsOf es) ts rs) := HP4.out.doc.only HO2.out fun k hg hf => HP4.out.fg k hf hg
          clear HO2 z0 z2 z3 z4 zl e1 e1p e1n e2 e2p e2n
          have z0 := HX2.out.cell 0 _ rfl
          have z2 := HX2.out.cell 1 _ rfl
          have z3 := HX2.out.cell 2 _ rfl
          have z4 := HX2.out.cell 3 _ rfl
          have zl := HX2.out.lt
          have HGL : Hid ((gavsOf es).length = es.length) := List.length_map ..
          have HDP := Lib.hid (docPut_of HRM ⟨yg, ya, yv⟩ ys w2 HD2.out (by have h1 := HGL.out; have h2 := HE2.out; omega) (by have h1 := HGL.out; have h2 := HP4.out.tl; omega) (by have h1 := HGL.out; have h2 := HP4.out.rl; omega) HG.out)
          unfold ptr at HDP
          go_wp2_with fail
          refine HDP.out.mono ?_
          rintro e w3 ⟨⟨i, rfl⟩, hd⟩
          obtain ⟨es', hpa, hel, hbl⟩ := HP4.out.step HW1.out.size HPO.out hd
          have HP5 := Lib.hid hpa
          have HE5 := Lib.hid hel
          have HW5 := Lib.hid (HW1.out.trans hbl)
          clear hpa hel hbl hd HDP HPO HP4 HP1 HD2 HX2 z0 z2 z3 z4 zl
          go_wp2
          go_roundw
          case rel => exact ⟨k + 1, es', by first | rfl | go_num, HKL.out, HP5, by have h1 := HE5.out; have h2 := HE1.out; show _ ≤ _; omega, by have h1 := HE5.out; have h2 := HE1.out; have h3 := H40.out; show _ ≤ _; omega, HW5⟩
          case measure => simp [intOf]; have := HKL.out; omega
        · have e2 : decide ((ys.size : Int) ≤ 3000) = false := decide_eq_false (by omega)
          have e2p : ¬ (ys.size : Int) ≤ 3000 := by omega
          have e2n : decide (ys.size ≤ 3000) = false := decide_eq_false hsz
          clear hsz
          clear HP4
          go_wp2
          go_roundw
          case rel => exact ⟨k + 1, es, by first | rfl | go_num, HKL.out, HP1, by have := HE1.out; show _ ≤ _; omega, HE2, HW1⟩
          case measure => simp [intOf]; have := HKL.out; omega
      · have e1 : decide ((k : Int) < 40) = false := decide_eq_false (by omega)
        have e1p : ¬ (k : Int) < 40 := by omega
        have e1n : decide (k < 40) = false := decide_eq_false h40
        clear h40
        clear HP4
        go_wp2
        go_roundw
        case rel => exact ⟨k + 1, es, by first | rfl | go_num, HKL.out, HP1, by have := HE1.out; show _ ≤ _; omega, HE2, HW1⟩
        case measure => simp [intOf]; have := HKL.out; omega
    · obtain rfl : k = l.length := by omega
      have d1 : ¬ (l.length : Int) < (l.length : Int) := by omega
      go_wp2
      go_ret2
      exact ⟨bs, bd, es, rfl, HP.out, HE2.out, HW.out⟩

end Go.Proofs.YtecffghcpknmjaaDoor

/- The example of the Metas' statements is as the document says; the conditions stand in the theorem. -/
namespace Go.Proofs.YtecffghcpknmjaaDoor
open Go Go.RowKit

def gavM1 : Gav := ⟨⟨#[103]⟩, ⟨#[97]⟩, ⟨#[50, 45, 115, 110, 97, 112, 115, 104, 111, 116]⟩⟩
def gavM2 : Gav := ⟨⟨#[103]⟩, ⟨#[97]⟩, ⟨#[49]⟩⟩
def idM : Id := ⟨⟨#[103]⟩, ⟨#[97]⟩⟩
def rowM2 : List S := [⟨#[49]⟩, ⟨#[50, 45, 115, 110, 97, 112, 115, 104, 111, 116]⟩]
theorem gavM1_may : gavMay gavM1 = true := by kernel_rfl
theorem gavM2_may : gavMay gavM2 = true := by kernel_rfl
theorem rowM2_lt : ltSV ⟨#[49]⟩ ⟨#[50, 45, 115, 110, 97, 112, 115, 104, 111, 116]⟩ = true := by kernel_rfl
theorem rowM2_srt : Srt ltSV rowM2 := List.pairwise_cons.2 ⟨fun y hy => by rw [List.mem_singleton.1 hy]; exact ltSV_weak.asym _ _ rowM2_lt, srt_one _⟩
theorem rowM2_same : SameE ltSV [⟨#[50, 45, 115, 110, 97, 112, 115, 104, 111, 116]⟩, ⟨#[49]⟩] rowM2 :=
  SameE.turn ltSV_weak (u := [⟨#[50, 45, 115, 110, 97, 112, 115, 104, 111, 116]⟩]) (v := [⟨#[49]⟩]) fun a ha b hb => by rw [List.mem_singleton.1 ha, List.mem_singleton.1 hb]; exact rowM2_lt
theorem rowM2_last : lastV rowM2 = ⟨#[50, 45, 115, 110, 97, 112, 115, 104, 111, 116]⟩ := by kernel_rfl
theorem rowM2_rel : relV rowM2 = ⟨#[49]⟩ := by kernel_rfl
theorem versM {e1 e2 : Nat} : versOf ([] ++ [(freshE gavM1 ⟨#[]⟩, e1)] ++ [(freshE gavM2 ⟨#[]⟩, e2)]) idM = [⟨#[50, 45, 115, 110, 97, 112, 115, 104, 111, 116]⟩, ⟨#[49]⟩] := by
  rw [versOf_snoc, versOf_snoc]
  simp [versOf, freshE, idOf, gavM1, gavM2, idM]
theorem putM1 : putE [] gavM1 = 0 := by unfold putE; rw [gavM1_may]; simp [hasG]
theorem putM2 {e1 : Nat} : putE ([] ++ [(freshE gavM1 ⟨#[]⟩, e1)]) gavM2 = 0 := by
  unfold putE
  rw [gavM2_may]
  have : hasG ([] ++ [(freshE gavM1 ⟨#[]⟩, e1)]) gavM2 = false := by
    have hn : ¬ gavM2 = gavM1 := by decide
    simp [hasG, freshE, hn]
  rw [this]; simp
set_option maxRecDepth 100000 in
set_option maxHeartbeats 8000000 in
theorem metaLives_any (w : World) : Calls Tryd.prog 11 #[] w fun e w' => e = .returned (.bool true) ∧ Below w.heap.size w w' := by
  go_enter Tryd.func11, Tryd.ntmps11
  go_wp2_with fail
  refine (new_any w).mono ?_
  rintro e w1 ⟨b, F, rfl, hS, hF, hb1⟩
  have HS1 := Lib.hid hS
  have HF := Lib.hid hF
  have HB1 := Lib.hid hb1
  clear hS hF hb1
  have HP1 : Hid (Calls Tryd.prog 26 #[.pointer (some ⟨b, 0, none⟩), .agg #[.string ⟨#[103]⟩, .string ⟨#[97]⟩, .string ⟨#[50, 45, 115, 110, 97, 112, 115, 104, 111, 116]⟩], .string ⟨#[]⟩] w1 (PutOut F b [] 0 0 gavM1 ⟨#[]⟩ w1)) := put_any gavM1 ⟨#[]⟩ w1 HS1.out ⟨by decide, by decide, by decide⟩
  unfold ptr
  go_wp2_with fail
  refine HP1.out.mono ?_
  rintro e w2 ⟨rfl, ho2, F2, es2, hS2, hF2, -, he2⟩
  obtain ⟨eb1, rfl⟩ := he2 putM1
  rw [putM1]
  have HS2 := Lib.hid hS2
  have HF2 : Hid (∀ k, F2 k → w.heap.size ≤ k) := fun k hk => by
    by_cases h : k < w1.heap.size
    · exact HF.out k (hF2 k h hk)
    · have := HB1.out.size; omega
  have HB2 := Lib.hid (HB1.out.trans (ho2.below HB1.out.size HF.out))
  clear ho2 hS2 hF2 he2 HS1 HF HB1 HP1
  have HP2 : Hid (Calls Tryd.prog 26 #[.pointer (some ⟨b, 0, none⟩), .agg #[.string ⟨#[103]⟩, .string ⟨#[97]⟩, .string ⟨#[49]⟩], .string ⟨#[]⟩] w2 (PutOut F2 b ([] ++ [(freshE gavM1 ⟨#[]⟩, eb1)]) 0 0 gavM2 ⟨#[]⟩ w2)) := put_any gavM2 ⟨#[]⟩ w2 HS2.out ⟨by decide, by decide, by decide⟩
  go_wp2_with fail
  refine HP2.out.mono ?_
  rintro e w3 ⟨rfl, ho3, F3, es3, hS3, -, -, he3⟩
  obtain ⟨eb2, rfl⟩ := he3 putM2
  rw [putM2]
  have HB3 := Lib.hid (HB2.out.trans (ho3.below HB2.out.size HF2.out))
  have hmo := metaOfS_any idM w3 hS3 (by rw [versM]; decide) (by rw [versM]; intro x hx; simp at hx; rcases hx with rfl | rfl <;> decide)
  rw [versM] at hmo
  have HMO : Hid (Calls Tryd.prog 8 #[.pointer (some ⟨b, 0, none⟩), .agg #[.string ⟨#[103]⟩, .string ⟨#[97]⟩]] w3 fun e w' => ∃ v', e = .returned (.tuple #[.agg #[.string ⟨#[103]⟩, .string ⟨#[97]⟩, v', .string ⟨#[50, 45, 115, 110, 97, 112, 115, 104, 111, 116]⟩, .string ⟨#[49]⟩], .bool true]) ∧ (∃ ao c, v' = .slice ao 2 c) ∧ Below w3.heap.size w3 w') := hmo.mono (by
    rintro e w' ⟨v', M, h1, h2, h3, h4, h5⟩
    obtain rfl : M = rowM2 := (srt_uniq ltSV_weak h2 rowM2_srt (h3.symm.trans rowM2_same))
    rw [if_neg (by simp), rowM2_last, rowM2_rel] at h5
    exact ⟨v', h5, h1.shape, h4⟩)
  clear ho3 hS3 he3 HS2 HF2 HB2 HP2 hmo
  go_wp2_with fail
  refine HMO.out.mono ?_
  rintro e w4 ⟨v', rfl, ⟨ao, c, rfl⟩, hb4⟩
  have HB4 := Lib.hid (HB3.out.trans (hb4.mono HB3.out.size))
  clear hb4 HB3 HMO
  go_upto_region 5 with fail
  refine wp_world ?_
  intro W hW
  have x1 : Box W w4.heap.size [.string ⟨#[103]⟩, .string ⟨#[97]⟩, .slice ao 2 c, .string ⟨#[50, 45, 115, 110, 97, 112, 115, 104, 111, 116]⟩, .string ⟨#[49]⟩] := by rw [hW]; exact Box.new w4 [.string ⟨#[103]⟩, .string ⟨#[97]⟩, .slice ao 2 c, .string ⟨#[50, 45, 115, 110, 97, 112, 115, 104, 111, 116]⟩, .string ⟨#[49]⟩] _ _ rfl
  have hb : Below w4.heap.size w4 W := by rw [hW]; exact (Below.refl _ _).alloc (Nat.le_refl _) _
  clear hW
  have HB := Lib.hid (HB4.out.trans (hb.mono HB4.out.size))
  have x2 := x1.cell 2 _ rfl
  have x3 := x1.cell 3 _ rfl
  have x4 := x1.cell 4 _ rfl
  have xl := x1.lt
  clear x1 hb HB4
  go_wp2
  go_ret
  exact ⟨rfl, HB.out⟩

end Go.Proofs.YtecffghcpknmjaaDoor
