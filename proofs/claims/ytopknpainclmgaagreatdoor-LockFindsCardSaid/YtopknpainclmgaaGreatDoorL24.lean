/- Walks: lock.Find; the conditions stand in the theorems. -/
import Derived.Test.YtopknpainclmgaaGreatDoorL7
import Derived.Test.YtopknpainclmgaaGreatDoorD19
import Derived.Test.YtopknpainclmgaaGreatDoorL5
import Derived.Test.YtopknpainclmgaaGreatDoorLOpen

namespace Go.Proofs.YtopknpainclmgaaGreatDoor
open Go Go.RowKit

attribute [local go_sem ↓] eqg_keyE eql_keyB in
set_option maxRecDepth 100000 in
theorem findHit_any (p : Pin) (k : Key) (B : Nat) (w : World) (hB : B < w.heap.size) (h0 : w.cell? ⟨B, 0, none⟩ = some (.string k.group)) (h1 : w.cell? ⟨B, 1, none⟩ = some (.string k.artifact)) (h2 : w.cell? ⟨B, 2, none⟩ = some (.string k.type)) (h3 : w.cell? ⟨B, 3, none⟩ = some (.string k.classifier)) :
    Calls Tryz.prog 16 #[.agg #[.string p.key.group, .string p.key.artifact, .string p.key.type, .string p.key.classifier, .string p.version, .int .i64 p.scope], .pointer (some ⟨B, 0, none⟩)] w fun e w' => e = .returned (.bool (keyEq p.key k)) ∧ Below w.heap.size w w' := by
  have HB : Hid (∀ o, Below w.heap.size w (w.alloc o)) := fun o => (Below.refl _ w).alloc (Nat.le_refl _) _
  go_enter Tryz.func16, Tryz.ntmps16
  go_wp2
  go_ret
  exact ⟨rfl, HB.out _⟩
def IdxP (l : List Pin) (k : Key) (r : Int) : Prop := (r = -1 ∧ findP l k = none) ∨ ∃ (j : Nat) (h : j < l.length), r = j ∧ findP l k = some l[j]
set_option maxRecDepth 100000 in
set_option maxHeartbeats 4000000 in
theorem index_any (l : List Pin) (k : Key) (v : Value) (B : Nat) (w : World) (hv : SliceOf 6 pinC w v l) (hB : ∀ j u, (keyC k)[j]? = some u → w.cell? ⟨B, j, none⟩ = some u) (hlt : B < w.heap.size) :
    Calls Tryz.prog 15 #[v, .func (.func 16) #[] #[.pointer (some ⟨B, 0, none⟩)]] w fun e w' => ∃ r, e = .returned (.int .i64 r) ∧ IdxP l k r ∧ Below w.heap.size w w' := by
  have hlm : l.length ≤ 9223372036854775807 := by obtain ⟨a, c, e, h2, h3, -⟩ := hv; exact Nat.le_trans h2 (Nat.le_trans h3 (by decide))
  obtain ⟨ao, ac, rfl⟩ := hv.shape
  have HV := Lib.hid hv
  have HBK := Lib.hid hB
  have HLT := Lib.hid hlt
  clear hv hB hlt
  go_enter Tryz.func15, Tryz.ntmps15
  go_wp2_with fail
  go_loopw [8] (fun iv wr => ∃ i : Nat, i ≤ l.length ∧ iv = .int .i64 i ∧ Hid (findP (l.take i) k = none) ∧ Below w.heap.size w wr) (fun iv _ => l.length - (intOf iv).toNat)
  case atStart => exact ⟨0, Nat.zero_le _, rfl, rfl, Below.refl _ _⟩
  case round =>
    obtain ⟨i, hi, rfl, hn, hb⟩ := hrel
    have HBR := Lib.hid hb
    have hsr := hb.size
    by_cases hlt : i < l.length
    · have hltI : (i : Int) < (l.length : Int) := by omega
      obtain ⟨g, o, rfl, hg, hc⟩ := (HV.out.below hb).pinAtF hlt
      have c0 := hc 0 _ rfl
      have c1 := hc 1 _ rfl
      have c2 := hc 2 _ rfl
      have c3 := hc 3 _ rfl
      have c4 := hc 4 _ rfl
      have c5 := hc 5 _ rfl
      rw [Nat.add_zero] at c0
      have HC : Calls Tryz.prog 16 #[.agg #[.string l[i].key.group, .string l[i].key.artifact, .string l[i].key.type, .string l[i].key.classifier, .string l[i].version, .int .i64 l[i].scope], .pointer (some ⟨B, 0, none⟩)] wr _ := findHit_any l[i] k B wr (Nat.lt_of_lt_of_le HLT.out hsr) ((hb.cell (by exact HLT.out)).trans (HBK.out 0 _ rfl)) ((hb.cell (by exact HLT.out)).trans (HBK.out 1 _ rfl)) ((hb.cell (by exact HLT.out)).trans (HBK.out 2 _ rfl)) ((hb.cell (by exact HLT.out)).trans (HBK.out 3 _ rfl))
      have HCC := Lib.hid HC
      clear HC hc hb
      by_cases he : l[i].key = k
      · have hd : keyEq l[i].key k = true := decide_eq_true he
        have HR : Hid (IdxP l k (i : Int)) := .inr ⟨i, hlt, rfl, findP_end hlt hn.out he⟩
        rw [hd] at HCC
        clear hd he hn
        go_wp2_with fail
        refine HCC.out.mono ?_
        rintro e w2 ⟨rfl, hb2⟩
        have HB2 := Lib.hid (HBR.out.trans (hb2.mono hsr))
        clear hb2 c0 c1 c2 c3 c4 c5
        go_wp2
        go_ret
        exact ⟨_, rfl, HR.out, HB2.out⟩
      · have hd : keyEq l[i].key k = false := decide_eq_false he
        have HN := Lib.hid (findP_go hlt hn.out he)
        rw [hd] at HCC
        clear hd he hn
        go_wp2_with fail
        refine HCC.out.mono ?_
        rintro e w2 ⟨rfl, hb2⟩
        have HB2 := Lib.hid (HBR.out.trans (hb2.mono hsr))
        clear hb2 c0 c1 c2 c3 c4 c5
        go_wp2
        go_roundw
        case rel => exact ⟨i + 1, hlt, by go_num, HN.out, HB2.out⟩
        case measure => simp [intOf]; omega
    · obtain rfl : i = l.length := by omega
      have HR : Hid (IdxP l k (-1)) := .inl ⟨rfl, by have := hn.out; rwa [List.take_length] at this⟩
      clear hlt hb hn
      go_wp2
      go_ret
      exact ⟨_, rfl, HR.out, HBR.out⟩
set_option maxRecDepth 100000 in
set_option maxHeartbeats 4000000 in
theorem lockFind_any (l : Lock) (k : Key) (v : Value) (w : World) (hv : SliceOf 6 pinC w v l.pins) :
    Calls Tryz.prog 7 #[.agg (lockC l v).toArray, .agg #[.string k.group, .string k.artifact, .string k.type, .string k.classifier]] w fun e w' => e = .returned (.tuple #[.agg (pinC ((findP l.pins k).getD noPin)).toArray, .bool (findP l.pins k).isSome]) ∧ Below w.heap.size w w' := by
  obtain ⟨ao, ac, rfl⟩ := hv.shape
  have HV := Lib.hid hv
  clear hv
  unfold lockC
  go_enter Tryz.func7, Tryz.ntmps7
  go_upto_region 1 with fail
  refine wp_world ?_
  intro W hW
  have x2 : Box W w.heap.size [.string l.root.group, .string l.root.artifact, .string l.root.version, .slice ao l.pins.length ac] := by rw [hW]; exact ((Box.new w _ _ _ rfl).alloc _).alloc _
  have x3 : Box W (w.heap.size + 1) [.string k.group, .string k.artifact, .string k.type, .string k.classifier] := by rw [hW]; exact (Box.new _ _ _ _ (by simp)).alloc _
  have x4 : Box W (w.heap.size + 1 + 1) [.string ⟨#[]⟩, .string ⟨#[]⟩, .string ⟨#[]⟩, .string ⟨#[]⟩, .string ⟨#[]⟩, .int .i64 0] := by rw [hW]; exact Box.new _ _ _ _ (by simp)
  have hB : Below w.heap.size w W := by rw [hW]; exact (((Below.refl _ w).alloc (Nat.le_refl _) _).alloc (by simp) _).alloc (by simp; omega) _
  clear hW
  have HX2 := Lib.hid x2
  have HX4 := Lib.hid x4
  have HBW := Lib.hid hB
  have hs := hB.size
  have y3 := x2.cell 3 _ rfl
  have HI := Lib.hid (index_any l.pins k (.slice ao l.pins.length ac) (w.heap.size + 1) W (HV.out.below hB) (fun j u hu => x3.cell j u hu) x3.lt)
  clear x2 x3 x4 hB
  go_wp2_with fail
  refine HI.out.mono ?_
  rintro e w2 ⟨r, rfl, hr, hb2⟩
  have HB2 := Lib.hid (HBW.out.trans (hb2.mono hs))
  have hs2 := HB2.out.size
  have HX4' := Lib.hid (HX4.out.below hb2 HX4.out.lt)
  have y3' := (HX2.out.below hb2 HX2.out.lt).cell 3 _ rfl
  clear hb2 y3
  rcases hr with ⟨rfl, hf⟩ | ⟨j, hj, rfl, hf⟩
  · have HF := Lib.hid hf
    clear hf
    go_wp2_with ((with_reducible show wpList _ _ _ (Oper.mk none (Op.store 33 (.tmp 4) (.tmp 13)) _ _ _ _ :: _) _ _); refine wpList_store_box rfl 33 (.tmp 4) (.tmp 13) rfl (w.heap.size + 1 + 1) [.string ⟨#[]⟩, .string ⟨#[]⟩, .string ⟨#[]⟩, .string ⟨#[]⟩, .string ⟨#[]⟩, .int .i64 0] [.string ⟨#[]⟩, .string ⟨#[]⟩, .string ⟨#[]⟩, .string ⟨#[]⟩, .string ⟨#[]⟩, .int .i64 0] rfl rfl HX4'.out rfl size_pinF (by simp [Value.oneCell']) ?_; intro W9 v9 hg9; have z0 := v9.cell 0 _ rfl; have z1 := v9.cell 1 _ rfl; have z2 := v9.cell 2 _ rfl; have z3 := v9.cell 3 _ rfl; have z4 := v9.cell 4 _ rfl; have z5 := v9.cell 5 _ rfl; have HG9 := Lib.hid (HB2.out.trans ((below_grown hg9 (by have := HX4'.out.lt; omega)).mono (by omega))); clear hg9 v9)
    refine bodyPost_ret (v := .tuple #[.agg #[.string ⟨#[]⟩, .string ⟨#[]⟩, .string ⟨#[]⟩, .string ⟨#[]⟩, .string ⟨#[]⟩, .int .i64 0], .bool false]) (by simp [results, Tryz.results7, go_sem, z0, z1, z2, z3, z4, z5]) rfl ?_
    exact ⟨by rw [HF.out]; rfl, HG9.out⟩
  · obtain ⟨g, o, rfl, hg, hc⟩ := (HV.out.below HB2.out).pinAtF hj
    have hjI : (j : Int) < (l.pins.length : Int) := by omega
    have HF := Lib.hid hf
    clear hf
    have c0 := hc 0 _ rfl
    have c1 := hc 1 _ rfl
    have c2 := hc 2 _ rfl
    have c3 := hc 3 _ rfl
    have c4 := hc 4 _ rfl
    have c5 := hc 5 _ rfl
    rw [Nat.add_zero] at c0
    clear hc
    generalize l.pins[j] = p at *
    go_wp2_with ((with_reducible show wpList _ _ _ (Oper.mk none (Op.store 33 (.tmp 4) (.tmp 18)) _ _ _ _ :: _) _ _); refine wpList_store_box rfl 33 (.tmp 4) (.tmp 18) rfl (w.heap.size + 1 + 1) [.string ⟨#[]⟩, .string ⟨#[]⟩, .string ⟨#[]⟩, .string ⟨#[]⟩, .string ⟨#[]⟩, .int .i64 0] [.string p.key.group, .string p.key.artifact, .string p.key.type, .string p.key.classifier, .string p.version, .int .i64 p.scope] rfl rfl HX4'.out rfl size_pinF (by simp [Value.oneCell']) ?_; intro W9 v9 hg9; have z0 := v9.cell 0 _ rfl; have z1 := v9.cell 1 _ rfl; have z2 := v9.cell 2 _ rfl; have z3 := v9.cell 3 _ rfl; have z4 := v9.cell 4 _ rfl; have z5 := v9.cell 5 _ rfl; have HG9 := Lib.hid (HB2.out.trans ((below_grown hg9 (by have := HX4'.out.lt; omega)).mono (by omega))); clear hg9 v9)
    refine bodyPost_ret (v := .tuple #[.agg #[.string p.key.group, .string p.key.artifact, .string p.key.type, .string p.key.classifier, .string p.version, .int .i64 p.scope], .bool true]) (by simp [results, Tryz.results7, go_sem, z0, z1, z2, z3, z4, z5]) rfl ?_
    exact ⟨by rw [HF.out]; rfl, HG9.out⟩

end Go.Proofs.YtopknpainclmgaaGreatDoor
