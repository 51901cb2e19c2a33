/- Walks: edits turned round; the conditions stand in the theorem. -/
import Derived.Test.YtmcjpmogjmnfpaaL13
import Derived.Test.YtmcjpmogjmnfpaaLB
namespace Go.Proofs.Ytmcjpmogjmnfpaa
open Go Go.RowKit

def turn1 (e : Edit) : Edit := ⟨e.key, e.has, e.had, e.new, e.old⟩
set_option maxRecDepth 100000 in
set_option maxHeartbeats 8000000 in
theorem turn_any (l : List Edit) (v : Value) (w : World) (hv : SliceOf 18 editC w v l) (hl : l.length ≤ 1000) : Calls Try.prog 18 #[v] w (EditsOut w (turnE l)) := by
  have hlm : l.length ≤ 9223372036854775807 := by omega
  obtain ⟨ao, ac, rfl⟩ := hv.shape
  have HV := Lib.hid hv
  have HLL := Lib.hid hl
  clear hv hl
  go_enter Try.func18, Try.ntmps18
  go_wp2_with fail
  go_loopw [2, 7] (fun ov iv wr => ∃ i : Nat, i ≤ l.length ∧ iv = .int .i64 i ∧ Owns w.heap.size 46 18 editC wr ov ((l.take i).map turn1) ∧ Below w.heap.size w wr) (fun _ iv _ => l.length - (intOf iv).toNat)
  case atStart => exact ⟨0, Nat.zero_le _, rfl, Owns.nil, Below.refl _ _⟩
  case round =>
    obtain ⟨i, hi, rfl, ho, hb⟩ := hrel
    obtain ⟨oo, oc, rfl⟩ := ho.shape
    have HO := Lib.hid ho
    have HBR := Lib.hid hb
    have hsr := hb.size
    by_cases hlt : i < l.length
    · have hltI : (i : Int) < (l.length : Int) := by omega
      obtain ⟨g, o, rfl, hg, hc⟩ := (HV.out.below hb).at hlt
      have HRG : Hid (wr.rangeAt g (o + i * 18) (editC l[i])) := fun q u h => hc q u h
      have hx4 : Hid (Box (wr.alloc (.cells #[.string ⟨#[]⟩, .string ⟨#[]⟩, .string ⟨#[]⟩, .string ⟨#[]⟩, .bool false, .bool false, .string ⟨#[]⟩, .string ⟨#[]⟩, .string ⟨#[]⟩, .string ⟨#[]⟩, .string ⟨#[]⟩, .int .i64 0, .string ⟨#[]⟩, .string ⟨#[]⟩, .string ⟨#[]⟩, .string ⟨#[]⟩, .string ⟨#[]⟩, .int .i64 0] 46)) wr.heap.size [.string ⟨#[]⟩, .string ⟨#[]⟩, .string ⟨#[]⟩, .string ⟨#[]⟩, .bool false, .bool false, .string ⟨#[]⟩, .string ⟨#[]⟩, .string ⟨#[]⟩, .string ⟨#[]⟩, .string ⟨#[]⟩, .int .i64 0, .string ⟨#[]⟩, .string ⟨#[]⟩, .string ⟨#[]⟩, .string ⟨#[]⟩, .string ⟨#[]⟩, .int .i64 0]) := Box.new wr _ _ _ rfl
      have HST : Hid ((l.take (i + 1)).map turn1 = (l.take i).map turn1 ++ [turn1 l[i]]) := by
        show _ = _
        rw [List.take_succ_eq_append_getElem hlt, List.map_append]; rfl
      have HTL : Hid (((l.take i).map turn1).length ≤ 1000) := by have h1 := HLL.out; show _ ≤ _; simp; omega
      clear hc hb ho
      generalize (l.take i).map turn1 = out at *
      generalize l[i] = e at *
      go_upto_region 4 with (first | ((with_reducible show wpList _ _ _ (Oper.mk _ (Op.load 46 (.tmp 9)) _ _ _ _ :: _) _ _); refine wpList_load_mid rfl 46 (.tmp 9) rfl g (o + i * 18) rfl (editC e) _ HRG.out Try.underlying46 rfl size_edit ?_) | ((with_reducible show wpList _ _ _ (Oper.mk none (Op.store 46 (.tmp 4) (.tmp 10)) _ _ _ _ :: _) _ _); refine wpList_store_box rfl 46 (.tmp 4) (.tmp 10) rfl wr.heap.size [.string ⟨#[]⟩, .string ⟨#[]⟩, .string ⟨#[]⟩, .string ⟨#[]⟩, .bool false, .bool false, .string ⟨#[]⟩, .string ⟨#[]⟩, .string ⟨#[]⟩, .string ⟨#[]⟩, .string ⟨#[]⟩, .int .i64 0, .string ⟨#[]⟩, .string ⟨#[]⟩, .string ⟨#[]⟩, .string ⟨#[]⟩, .string ⟨#[]⟩, .int .i64 0] (editC e) rfl rfl hx4.out rfl size_edit editC_one ?_; intro W v0 hg0))
      have X4 := Lib.hid v0
      have HBW := Lib.hid (((Below.refl _ wr).alloc (Nat.le_refl _) _).trans (below_grown hg0 (by simp) |>.mono (by omega)))
      have HO4 := Lib.hid (HO.out.below HBW.out)
      have HBX := Lib.hid (HBR.out.trans (HBW.out.mono hsr))
      have hs1 := HBX.out.size
      have HLT := Lib.hid (editLit W (turn1 e) W.heap.size rfl)
      clear hx4 v0 hg0 HRG hg
      have n0 := X4.out.cell 0 _ rfl
      have n1 := X4.out.cell 1 _ rfl
      have n2 := X4.out.cell 2 _ rfl
      have n3 := X4.out.cell 3 _ rfl
      have n4 := X4.out.cell 4 _ rfl
      have n5 := X4.out.cell 5 _ rfl
      have n6 := X4.out.cell 6 _ rfl
      have n7 := X4.out.cell 7 _ rfl
      have n8 := X4.out.cell 8 _ rfl
      have n9 := X4.out.cell 9 _ rfl
      have n10 := X4.out.cell 10 _ rfl
      have n11 := X4.out.cell 11 _ rfl
      have n12 := X4.out.cell 12 _ rfl
      have n13 := X4.out.cell 13 _ rfl
      have n14 := X4.out.cell 14 _ rfl
      have n15 := X4.out.cell 15 _ rfl
      have n16 := X4.out.cell 16 _ rfl
      have n17 := X4.out.cell 17 _ rfl
      simp only [Act.put]
      go_wp2_with (at_builtin; refine wpList_append_slice _ rfl _ _ 29 rfl w.heap.size 46 Try.underlying29 info_edit rfl (by decide) editC_len (.slice oo out.length oc) out rfl (HO4.out.alloc _) _ [turn1 e] rfl HLT.out (fun y _ => editC_one) (by have h1 := HTL.out; simp only [List.length_cons, List.length_nil]; omega) (by decide) (by simp; omega) ?_; intro v8 w8 hown8 hgrow8 hloc8; have HO8 := Lib.hid hown8; have HB8 := Lib.hid (own_below (HBX.out.trans ((Below.refl _ W).alloc hs1 _)) (HO4.out.alloc _) hgrow8 (by simp; omega)); clear hown8 hgrow8 hloc8)
      go_roundw
      case rel => exact ⟨i + 1, hlt, by go_num, by rw [HST.out]; exact HO8.out, HB8.out⟩
      case measure => simp [intOf]; omega
    · obtain rfl : i = l.length := by omega
      have HF : Hid (Owns w.heap.size 46 18 editC wr (.slice oo ((l.take l.length).map turn1).length oc) (l.map turn1)) := by
        have h := ho
        simp only [List.take_length] at h
        simp only [List.take_length]
        exact h
      clear hlt hb ho
      go_wp2
      go_ret
      exact ⟨_, rfl, (HF.out : Owns w.heap.size 46 18 editC wr _ (turnE l)), HBR.out⟩

end Go.Proofs.Ytmcjpmogjmnfpaa
