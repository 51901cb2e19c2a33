/- Walks: what edits are told as, all of them; the conditions stand in the theorem. -/
import Derived.Test.YtmcjpmogjmnfpaaL17
namespace Go.Proofs.Ytmcjpmogjmnfpaa
open Go Go.RowKit

def TellOk (e : Edit) : Prop := e.has = true ∧ keyS e.key ∧ e.old.version.size ≤ 1000 ∧ e.new.version.size ≤ 1000
theorem keyT_len (k : Key) (h : keyS k) : (keyT k).length ≤ 4100 := by
  obtain ⟨h1, h2, h3, h4⟩ := h
  have e1 := size_data k.group
  have e2 := size_data k.artifact
  have e3 := size_data k.type
  have e4 := size_data k.classifier
  unfold keyT
  split
  · simp only [List.length_append, List.length_cons, List.length_nil]; omega
  · simp only [List.length_append, List.length_cons]; omega
theorem joinB_plus (k : Key) (p : Pin) : joinB [bs [43], bs (keyT k), bs (pinT p)] = Lib.join [[43], keyT k, pinT p] [32] := by
  unfold joinB
  simp only [List.map_cons, List.map_nil, bs_data]
theorem joinB_turn (k : Key) (p q : Pin) : joinB [bs [126], bs (keyT k), bs (pinT p), bs [116, 111], bs (pinT q)] = Lib.join [[126], keyT k, pinT p, [116, 111], pinT q] [32] := by
  unfold joinB
  simp only [List.map_cons, List.map_nil, bs_data]
theorem joinB_plus_len (k : Key) (p : Pin) (h : keyS k) (hp : p.version.size ≤ 1000) : (joinB [bs [43], bs (keyT k), bs (pinT p)]).length ≤ 140737488355328 := by
  have h1 := keyT_len k h
  have h2 := pinT_len p hp
  rw [joinB_plus, Lib.join_cons]
  simp only [Lib.joinTail, List.map_cons, List.map_nil, List.flatten_cons, List.flatten_nil, List.length_append, List.length_cons, List.length_nil]
  omega
theorem joinB_turn_len (k : Key) (p q : Pin) (h : keyS k) (hp : p.version.size ≤ 1000) (hq : q.version.size ≤ 1000) : (joinB [bs [126], bs (keyT k), bs (pinT p), bs [116, 111], bs (pinT q)]).length ≤ 140737488355328 := by
  have h1 := keyT_len k h
  have h2 := pinT_len p hp
  have h3 := pinT_len q hq
  rw [joinB_turn, Lib.join_cons]
  simp only [Lib.joinTail, List.map_cons, List.map_nil, List.flatten_cons, List.flatten_nil, List.length_append, List.length_cons, List.length_nil]
  omega
/-- join at a slice that was just made. -/
theorem join_lit (xs : List S) (w : World) (t : TypeId) (n : Nat) (hn : n = xs.length) (h100 : xs.length ≤ 100) (hlen : (joinB xs).length ≤ 140737488355328) (H : Nat) (hH : w.heap.size = H) :
    Calls Try.prog 42 #[.slice (some ⟨H, 0, none⟩) n n] (w.alloc (.cells (xs.map Value.string).toArray t)) fun e w' => e = .returned (.string (bs (joinB xs))) ∧ Below w.heap.size w w' := by
  subst hH
  have hx : Box (w.alloc (.cells (xs.map Value.string).toArray t)) w.heap.size (xs.map Value.string) := Box.new w _ _ _ rfl
  refine (join_any xs w.heap.size 0 n _ (fun j x hj => ?_) hx.lt (by omega) (by omega) hlen n hn).mono fun e w' ⟨h1, h2⟩ => ⟨h1, ((Below.refl _ w).alloc (Nat.le_refl _) _).trans (h2.mono (by simp))⟩
  rw [Nat.zero_add]
  exact hx.cell j _ (by rw [List.getElem?_map, hj]; rfl)
theorem strLit (w : World) (x : S) (H : Nat) (hH : w.heap.size = H) : SliceOf 1 strC (w.alloc (.cells #[.string x] 9)) (.slice (some ⟨H, 0, none⟩) 1 1) [x] := by
  have := sliceStr w [x] 9 H hH (by simp [maxLen])
  simpa using this
theorem info_str : (Try.prog.info? 9).map (fun i => (i.zero, i.size, i.bytes)) = some (some (.string ⟨#[]⟩), 1, 16) := by kernel_rfl
theorem strC_len (x : S) : (strC x).length = 1 := rfl
theorem strC_one {x : S} : ∀ u ∈ strC x, u.oneCell' = true := by intro u hu; simp [strC] at hu; subst hu; rfl
def TellOut (w : World) (l : List S) (e : Ending) (w' : World) : Prop := ∃ v, e = .returned v ∧ Owns w.heap.size 9 1 strC w' v l ∧ Below w.heap.size w w'
theorem own_below2 {α : Type} {B : Nat} {w2 w8 w9 : World} {E n : Nat} {C : α → List Value} {v : Value} {l : List α} (h : Below B w2 w8) (ho : Owns B E n C w8 v l) (hg : w8.grownBy w9 v.ownBlock) (hB : B ≤ w8.heap.size) : Below B w2 w9 :=
  h.trans ⟨hg.os, hg.tape, hg.output, hg.size, fun k hk => hg.block k (Nat.lt_of_lt_of_le hk hB) fun e => by have := (ho.lt k e.symm).1; omega⟩

set_option maxRecDepth 100000 in
set_option maxHeartbeats 16000000 in
theorem tell_any (l : List Edit) (v : Value) (w : World) (hv : SliceOf 18 editC w v l) (hk : ∀ e ∈ l, TellOk e) (hl : l.length ≤ 1000) : Calls Try.prog 22 #[v] w (TellOut w (l.map fun e => bs (tellE e))) := by
  have hlm : l.length ≤ 9223372036854775807 := by omega
  obtain ⟨ao, ac, rfl⟩ := hv.shape
  have HV := Lib.hid hv
  have HK := Lib.hid hk
  have HLL := Lib.hid hl
  clear hv hk hl
  go_enter Try.func22, Try.ntmps22
  go_wp2_with fail
  go_loopw [2, 8] (fun ov iv wr => ∃ i : Nat, i ≤ l.length ∧ iv = .int .i64 i ∧ Owns w.heap.size 9 1 strC wr ov ((l.take i).map fun e => bs (tellE e)) ∧ Below w.heap.size w wr) (fun _ iv _ => l.length - (intOf iv).toNat)
  case atStart => exact ⟨0, Nat.zero_le _, rfl, Owns.nil, Below.refl _ _⟩
  case round =>
    obtain ⟨i, hi, rfl, ho, hb⟩ := hrel
    obtain ⟨oo, oc, rfl⟩ := ho.shape
    have HO := Lib.hid ho
    have HBR := Lib.hid hb
    have hsr := hb.size
    by_cases hlt : i < l.length
    · have hltI : (i : Int) < (l.length : Int) := by omega
      obtain ⟨g, o, rfl, hg, hc⟩ := (HV.out.below hb).at hlt
      have HRG : Hid (wr.rangeAt g (o + i * 18) (editC l[i])) := fun q u h => hc q u h
      have hx4 : Hid (Box (wr.alloc (.cells #[.string ⟨#[]⟩, .string ⟨#[]⟩, .string ⟨#[]⟩, .string ⟨#[]⟩, .bool false, .bool false, .string ⟨#[]⟩, .string ⟨#[]⟩, .string ⟨#[]⟩, .string ⟨#[]⟩, .string ⟨#[]⟩, .int .i64 0, .string ⟨#[]⟩, .string ⟨#[]⟩, .string ⟨#[]⟩, .string ⟨#[]⟩, .string ⟨#[]⟩, .int .i64 0] 46)) wr.heap.size [.string ⟨#[]⟩, .string ⟨#[]⟩, .string ⟨#[]⟩, .string ⟨#[]⟩, .bool false, .bool false, .string ⟨#[]⟩, .string ⟨#[]⟩, .string ⟨#[]⟩, .string ⟨#[]⟩, .string ⟨#[]⟩, .int .i64 0, .string ⟨#[]⟩, .string ⟨#[]⟩, .string ⟨#[]⟩, .string ⟨#[]⟩, .string ⟨#[]⟩, .int .i64 0]) := Box.new wr _ _ _ rfl
      have HEK : Hid (TellOk l[i]) := HK.out _ (List.getElem_mem hlt)
      have HST : Hid (∀ s, tellE l[i] = s → (l.take (i + 1)).map (fun e => bs (tellE e)) = (l.take i).map (fun e => bs (tellE e)) ++ [bs s]) := fun s h => by
        rw [List.take_succ_eq_append_getElem hlt, List.map_append]
        subst h; rfl
      have HTL : Hid (((l.take i).map fun e => bs (tellE e)).length ≤ 1000) := by have h1 := HLL.out; show _ ≤ _; simp; omega
      clear hc hb ho
      generalize (l.take i).map (fun e => bs (tellE e)) = out at *
      generalize l[i] = e at *
      go_upto_region 4 with (first | ((with_reducible show wpList _ _ _ (Oper.mk _ (Op.load 46 (.tmp 10)) _ _ _ _ :: _) _ _); refine wpList_load_mid rfl 46 (.tmp 10) rfl g (o + i * 18) rfl (editC e) _ HRG.out Try.underlying46 rfl size_edit ?_) | ((with_reducible show wpList _ _ _ (Oper.mk none (Op.store 46 (.tmp 4) (.tmp 11)) _ _ _ _ :: _) _ _); refine wpList_store_box rfl 46 (.tmp 4) (.tmp 11) rfl wr.heap.size [.string ⟨#[]⟩, .string ⟨#[]⟩, .string ⟨#[]⟩, .string ⟨#[]⟩, .bool false, .bool false, .string ⟨#[]⟩, .string ⟨#[]⟩, .string ⟨#[]⟩, .string ⟨#[]⟩, .string ⟨#[]⟩, .int .i64 0, .string ⟨#[]⟩, .string ⟨#[]⟩, .string ⟨#[]⟩, .string ⟨#[]⟩, .string ⟨#[]⟩, .int .i64 0] (editC e) rfl rfl hx4.out rfl size_edit editC_one ?_; intro W v0 hg0))
      have X4 := Lib.hid v0
      have HBW := Lib.hid (((Below.refl _ wr).alloc (Nat.le_refl _) _).trans (below_grown hg0 (by simp) |>.mono (by omega)))
      have hs1 := HBW.out.size
      clear hx4 v0 hg0 HRG hg
      obtain ⟨k, had, has, old, new⟩ := e
      obtain ⟨hhas, hks, hos, hns⟩ := HEK.out
      simp only at hhas hks hos hns
      subst hhas
      have HKS := Lib.hid hks
      have HOS := Lib.hid hos
      have HNS := Lib.hid hns
      clear hks hos hns HEK
      have n0 := X4.out.cell 0 _ rfl
      have n1 := X4.out.cell 1 _ rfl
      have n2 := X4.out.cell 2 _ rfl
      have n3 := X4.out.cell 3 _ rfl
      simp only [Act.put]
      go_wp2_with fail
      refine (printKey_any k _ HKS.out).mono ?_
      rintro e w2 ⟨rfl, hb2⟩
      have X5 := Lib.hid (X4.out.below hb2 X4.out.lt)
      have HB2 := Lib.hid (HBW.out.trans (hb2.mono hs1))
      have hs2 := HB2.out.size
      have lx := X5.out.lt
      clear n0 n1 n2 n3 hb2
      have n4 := X5.out.cell 4 _ rfl
      have n5 := X5.out.cell 5 _ rfl
      cases had with
      | false =>
        have n12 := X5.out.cell 12 _ rfl
        have n13 := X5.out.cell 13 _ rfl
        have n14 := X5.out.cell 14 _ rfl
        have n15 := X5.out.cell 15 _ rfl
        have n16 := X5.out.cell 16 _ rfl
        have n17 := X5.out.cell 17 _ rfl
        have HTE : Hid (tellE ⟨k, false, true, old, new⟩ = joinB [bs [43], bs (keyT k), bs (pinT new)]) := by show _ = _; rw [joinB_plus]; rfl
        have HJ : Hid (∀ (w3 : World), Calls Try.prog 42 #[.slice (some ⟨w3.heap.size, 0, none⟩) 3 3] (w3.alloc (.cells #[.string ⟨#[43]⟩, .string (bs (keyT k)), .string (bs (pinT new))] 9)) fun e w' => e = .returned (.string (bs (joinB [bs [43], bs (keyT k), bs (pinT new)]))) ∧ Below w3.heap.size w3 w') := fun w3 => join_lit [bs [43], bs (keyT k), bs (pinT new)] w3 _ 3 rfl (by simp) (joinB_plus_len k new HKS.out HNS.out) _ rfl
        generalize joinB [bs [43], bs (keyT k), bs (pinT new)] = J at *
        go_wp2_with fail
        refine (tellPin_any new _ HNS.out).mono ?_
        rintro e w3 ⟨rfl, hb3⟩
        have HB3 := Lib.hid (HB2.out.trans (hb3.mono hs2))
        have hs3 := HB3.out.size
        clear n4 n5 n12 n13 n14 n15 n16 n17 lx hb3
        go_wp2_with fail
        refine (HJ.out w3).mono ?_
        rintro e w4 ⟨rfl, hb4⟩
        have HB4 := Lib.hid (HBR.out.trans ((HB3.out.trans (hb4.mono hs3)).mono hsr))
        have HO4 := Lib.hid (HO.out.below (HB3.out.trans (hb4.mono hs3)))
        have hs4 := HB4.out.size
        have HLT := Lib.hid (strLit w4 (bs J) w4.heap.size rfl)
        clear hb4
        go_wp2_with (at_builtin; refine wpList_append_slice _ rfl _ _ 51 rfl w.heap.size 9 Try.underlying51 info_str rfl (by decide) strC_len (.slice oo out.length oc) out rfl (HO4.out.alloc _) _ [bs J] rfl HLT.out (fun y _ => strC_one) (by have h1 := HTL.out; simp only [List.length_cons, List.length_nil]; omega) (by decide) (by simp; omega) ?_; intro v8 w8 hown8 hgrow8 hloc8; have HO8 := Lib.hid hown8; have HB8 := Lib.hid (own_below2 (HB4.out.trans ((Below.refl _ w4).alloc hs4 _)) (HO4.out.alloc _) hgrow8 (by simp; omega)); clear hown8 hgrow8 hloc8)
        go_roundw
        case rel => exact ⟨i + 1, hlt, by go_num, by rw [HST.out _ HTE.out]; exact HO8.out, HB8.out⟩
        case measure => simp [intOf]; omega
      | true =>
        have n6 := X5.out.cell 6 _ rfl
        have n7 := X5.out.cell 7 _ rfl
        have n8 := X5.out.cell 8 _ rfl
        have n9 := X5.out.cell 9 _ rfl
        have n10 := X5.out.cell 10 _ rfl
        have n11 := X5.out.cell 11 _ rfl
        have n12 := X5.out.cell 12 _ rfl
        have n13 := X5.out.cell 13 _ rfl
        have n14 := X5.out.cell 14 _ rfl
        have n15 := X5.out.cell 15 _ rfl
        have n16 := X5.out.cell 16 _ rfl
        have n17 := X5.out.cell 17 _ rfl
        have HTE : Hid (tellE ⟨k, true, true, old, new⟩ = joinB [bs [126], bs (keyT k), bs (pinT old), bs [116, 111], bs (pinT new)]) := by show _ = _; rw [joinB_turn]; rfl
        have HJ : Hid (∀ (w3 : World), Calls Try.prog 42 #[.slice (some ⟨w3.heap.size, 0, none⟩) 5 5] (w3.alloc (.cells #[.string ⟨#[126]⟩, .string (bs (keyT k)), .string (bs (pinT old)), .string ⟨#[116, 111]⟩, .string (bs (pinT new))] 9)) fun e w' => e = .returned (.string (bs (joinB [bs [126], bs (keyT k), bs (pinT old), bs [116, 111], bs (pinT new)]))) ∧ Below w3.heap.size w3 w') := fun w3 => join_lit [bs [126], bs (keyT k), bs (pinT old), bs [116, 111], bs (pinT new)] w3 _ 5 rfl (by simp) (joinB_turn_len k old new HKS.out HOS.out HNS.out) _ rfl
        generalize joinB [bs [126], bs (keyT k), bs (pinT old), bs [116, 111], bs (pinT new)] = J at *
        go_wp2_with fail
        refine wp_world ?_
        intro V hV
        have HBV : Hid (Below wr.heap.size wr V) := by rw [hV]; exact HB2.out
        have HOV : Hid (Owns w.heap.size 9 1 strC V (.slice oo out.length oc) out) := by rw [hV]; exact HO.out.below HB2.out
        have XV : Hid (Box V wr.heap.size (editC ⟨k, true, true, old, new⟩)) := by rw [hV]; exact X5.out
        clear n4 n5 n6 n7 n8 n9 n10 n11 n12 n13 n14 n15 n16 n17 lx hV
        have lv := XV.out.lt
        have m6 := XV.out.cell 6 _ rfl
        have m7 := XV.out.cell 7 _ rfl
        have m8 := XV.out.cell 8 _ rfl
        have m9 := XV.out.cell 9 _ rfl
        have m10 := XV.out.cell 10 _ rfl
        have m11 := XV.out.cell 11 _ rfl
        have m12 := XV.out.cell 12 _ rfl
        have m13 := XV.out.cell 13 _ rfl
        have m14 := XV.out.cell 14 _ rfl
        have m15 := XV.out.cell 15 _ rfl
        have m16 := XV.out.cell 16 _ rfl
        have m17 := XV.out.cell 17 _ rfl
        go_region_law (first | (refine step_append_slice _ rfl (.tmp 15) (.tmp 25) 51 rfl w.heap.size 9 Try.underlying51 info_str rfl (by decide) strC_len (.slice oo out.length oc) out (by simp [Act.eval]) (HO4.out.alloc _) (.slice (some ⟨w4.heap.size, 0, none⟩) 1 1) [bs J] (by simp [Act.eval]) (strLit w4 (bs J) w4.heap.size rfl) (fun y _ => strC_one) (by have h1 := HTL.out; simp only [List.length_cons, List.length_nil]; omega) (by decide) (by have h1 := HB4.out.size; simp; omega) ?_; intro a8 n8 c8 w8 ho8 hg8; have HO8 := Lib.hid ho8; have HB8 := Lib.hid (own_below2 (HB4.out.trans ((Below.refl _ w4).alloc HB4.out.size _)) (HO4.out.alloc _) hg8 (by have h1 := HB4.out.size; simp; omega)); clear ho8 hg8) | (go_simp; go_at_call 42; refine (HJ.out w6).mono ?_; rintro e w4 ⟨rfl, hb4⟩; have HB4 := Lib.hid (HBR.out.trans ((HB6.out.trans (hb4.mono HB6.out.size)).mono hsr)); have HO4 := Lib.hid (HO.out.below (HB6.out.trans (hb4.mono HB6.out.size))); clear hb4) | (have _x := HB5; go_simp; go_at_call 43; refine (tellPin_any new _ HNS.out).mono ?_; rintro e w6 ⟨rfl, hb6⟩; have HB6 := Lib.hid (HB5.out.trans (hb6.mono HB5.out.size)); clear hb6 _x) | (go_simp; go_at_call 43; refine (tellPin_any old _ HOS.out).mono ?_; rintro e w5 ⟨rfl, hb5⟩; have HB5 := Lib.hid (HBV.out.trans ((belowN (Below.refl _ V) 1 |>.mono HBV.out.size).trans (hb5.mono HBV.out.size))); have x5 := (XV.out.drew).below hb5 XV.out.lt; have l5 := x5.lt; have r12 := x5.cell 12 _ rfl; have r13 := x5.cell 13 _ rfl; have r14 := x5.cell 14 _ rfl; have r15 := x5.cell 15 _ rfl; have r16 := x5.cell 16 _ rfl; have r17 := x5.cell 17 _ rfl; clear x5 hb5))
        all_goals
          go_wp2
          go_roundw
          case rel => exact ⟨i + 1, hlt, by go_num, by rw [HST.out _ HTE.out]; exact HO8.out, HB8.out⟩
          case measure => simp [intOf]; omega
    · obtain rfl : i = l.length := by omega
      have HF : Hid (Owns w.heap.size 9 1 strC wr (.slice oo ((l.take l.length).map fun e => bs (tellE e)).length oc) (l.map fun e => bs (tellE e))) := by
        have h := ho
        simp only [List.take_length] at h
        simp only [List.take_length]
        exact h
      clear hlt hb ho
      go_wp2
      go_ret
      exact ⟨_, rfl, HF.out, HBR.out⟩

end Go.Proofs.Ytmcjpmogjmnfpaa
