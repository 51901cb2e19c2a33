/- The walk of version.Parts; the conditions stand in the theorem. -/
import Derived.Test.YtecffghcpknmjaaGreatDoorV5
import Derived.Test.YtecffghcpknmjaaGreatDoorQB

namespace Go.Proofs.YtecffghcpknmjaaGreatDoor
open Go Go.RowKit

theorem isNull_any (p : PartV) (w : World) : Calls Tryz.prog 105 #[.agg #[.bool p.hyphen, .bool p.number, .string (bs p.text)]] w fun e w' => e = .returned (.bool p.text.isEmpty) ∧ Below w.heap.size w w' := by
  have he : (bs p.text).toList.isEmpty = p.text.isEmpty := by rw [ByteArray.toList_eq]; simp [bs]
  have he2 : ((bs p.text).toList == []) = p.text.isEmpty := by rw [ByteArray.toList_eq]; simp [bs]
  go_enter Tryz.func105, Tryz.ntmps105
  cases hp : p.text.isEmpty with
  | true =>
    rw [hp] at he he2
    go_wp2
    go_ret
    exact ⟨rfl, (Below.refl _ _).alloc (Nat.le_refl _) _⟩
  | false =>
    rw [hp] at he he2
    go_wp2
    go_ret
    exact ⟨rfl, (Below.refl _ _).alloc (Nat.le_refl _) _⟩
theorem cutGo_len : ∀ (T cur : Bs) (hy : Bool), ∀ p ∈ cutGo T cur hy, p.text.length ≤ T.length + cur.length
  | [], cur, hy, p, h => by
    obtain rfl := List.mem_singleton.1 h
    simp
  | c :: r, cur, hy, p, h => by
    rw [cutGo] at h
    split at h
    · rcases List.mem_cons.1 h with rfl | h
      · simp
      · have := cutGo_len r [] _ p h
        simp at this ⊢; omega
    · split at h
      · rcases List.mem_cons.1 h with rfl | h
        · simp
        · have := cutGo_len r [c] _ p h
          simp at this ⊢; omega
      · have := cutGo_len r (cur ++ [c]) _ p h
        simp at this ⊢; omega
theorem cutGo_count : ∀ (T cur : Bs) (hy : Bool), (cutGo T cur hy).length ≤ T.length + 1
  | [], cur, hy => by simp [cutGo]
  | c :: r, cur, hy => by
    rw [cutGo]
    split
    · have := cutGo_count r [] (c.toNat == 45)
      simp; omega
    · split
      · have := cutGo_count r [c] true
        simp; omega
      · have := cutGo_count r (cur ++ [c]) hy
        simp; omega
theorem cutGo_head : ∀ (T cur : Bs) (hy : Bool), ((cutGo T cur hy).head?.map (·.hyphen)) = some hy
  | [], cur, hy => by simp [cutGo]
  | c :: r, cur, hy => by
    rw [cutGo]
    split
    · rfl
    · split
      · rfl
      · exact cutGo_head r _ hy
theorem partV_hyphen (p : Pc) : (partV p).hyphen = p.hyphen := by unfold partV; split <;> rfl
theorem rawV_head (T : Bs) : ∃ p r, rawV T = p :: r ∧ p.hyphen = false := by
  have h := cutGo_head (T.map lowV) [] false
  unfold rawV
  cases hc : cutGo (T.map lowV) [] false with
  | nil => exact absurd hc (cutGo_ne _ _ _)
  | cons p r =>
    rw [hc] at h
    simp at h
    exact ⟨partV p, r.map partV, rfl, by rw [partV_hyphen, h]⟩
theorem bs_lst (l : Bs) : (bs l).data.toList = l := by simp [bs]
theorem prtC_ones (p : PartV) : ∀ y ∈ [p], ∀ u ∈ prtC y, u.oneCell' = true := by
  intro y hy
  obtain rfl := List.mem_singleton.1 hy
  exact prtC_one y
theorem SliceOf.at3 {w : World} {ao : Option Addr} {len cap : Nat} {l : List Pc} (h : SliceOf 3 pcC w (.slice ao len cap) l) {k : Nat} (hk : k < l.length) :
    ∃ b o, ao = some ⟨b, o, none⟩ ∧ b < w.heap.size ∧ w.cell? ⟨b, o + k * 3, none⟩ = some (.string (bs l[k].text)) ∧ w.cell? ⟨b, o + k * 3 + 1, none⟩ = some (.bool l[k].hyphen) ∧ w.cell? ⟨b, o + k * 3 + 2, none⟩ = some (.bool l[k].close) := by
  obtain ⟨b, o, h1, h2, h3⟩ := h.at hk
  exact ⟨b, o, h1, h2, h3 0 _ rfl, h3 1 _ rfl, h3 2 _ rfl⟩
theorem step_take {R : List PartV} {k : Nat} (hk : k < R.length) : R.take (k + 1) ++ delV (R.drop (k + 1)) = R.take k ++ R[k] :: delV (R.drop (k + 1)) := by
  rw [List.take_add_one, List.getElem?_eq_getElem hk, List.append_assoc]; rfl
theorem step_keep {R : List PartV} {k : Nat} (hk : k < R.length) (hg : goneV R[k] (delV (R.drop (k + 1))) = false) : R.take (k + 1) ++ delV (R.drop (k + 1)) = R.take k ++ delV (R.drop k) := by
  rw [step_take hk, List.drop_eq_getElem_cons hk]
  congr 1
  rw [delV, if_neg (by rw [hg]; simp)]
theorem step_gone {R : List PartV} {k : Nat} (hk : k < R.length) (hg : goneV R[k] (delV (R.drop (k + 1))) = true) : (R.take (k + 1) ++ delV (R.drop (k + 1))).eraseIdx k = R.take k ++ delV (R.drop k) := by
  have hl : (R.take k).length = k := by rw [List.length_take]; omega
  rw [step_take hk, List.drop_eq_getElem_cons hk, delV, if_pos hg, List.eraseIdx_append_of_length_le (by omega), hl, Nat.sub_self]
  rfl
theorem delV_len : ∀ (l : List PartV), (delV l).length ≤ l.length
  | [] => Nat.le_refl _
  | p :: r => by
    have := delV_len r
    unfold delV
    split <;> simp <;> omega
theorem parts_fin {T : Bs} : (rawV T).take 1 ++ delV ((rawV T).drop 1) = partsV T := by
  unfold partsV
  cases h : rawV T with
  | nil => rfl
  | cons p r => rfl
set_option maxRecDepth 100000 in
set_option maxHeartbeats 16000000 in
theorem parts_any (s : S) (w : World) (hs : s.size ≤ 900000) : Calls Tryz.prog 75 #[.string s] w fun e w' => ∃ v, e = .returned v ∧ Owns w.heap.size 151 3 prtC w' v (partsV s.data.toList) ∧ Below w.heap.size w w' := by
  go_enter Tryz.func75, Tryz.ntmps75
  go_wp2_with fail
  refine (lower_any s w (by omega)).mono ?_
  rintro e w0 ⟨rfl, hb0⟩
  have HB0 := Lib.hid hb0
  clear hb0
  have hls : (bs (s.data.toList.map lowV)).size ≤ 1000000 := by rw [bs_size, List.length_map, size_data]; omega
  go_wp2_with fail
  refine (cut_any (bs (s.data.toList.map lowV)) w0 hls).mono ?_
  rintro e W1 ⟨pv, rfl, hp, hb1⟩
  rw [bs_lst] at hp
  obtain ⟨po, pc, rfl⟩ := hp.shape
  have HSL := Lib.hid (hp.slice pcC_len)
  have HB1 := Lib.hid (HB0.out.trans (hb1.mono HB0.out.size))
  have HCN : Hid ((cutGo (s.data.toList.map lowV) [] false).length ≤ 900001) := by
    have := cutGo_count (s.data.toList.map lowV) [] false
    rw [List.length_map, size_data] at this
    show _ ≤ _; omega
  have HTL : Hid (∀ p ∈ cutGo (s.data.toList.map lowV) [] false, p.text.length ≤ 1000000) := fun p hp => by
    have := cutGo_len _ _ _ p hp
    rw [List.length_map, size_data] at this
    simp at this; omega
  have HRW : Hid (rawV s.data.toList = (cutGo (s.data.toList.map lowV) [] false).map partV) := rfl
  clear hp hb1 hls HB0
  generalize cutGo (s.data.toList.map lowV) [] false = L at *
  go_wp2
  go_loopw [3, 14] (fun v i wr => ∃ (k n : Nat) (lo : Option Addr) (lc : Nat), v = .slice lo n lc ∧ i = .int .i64 k ∧ k ≤ L.length ∧ Hid (Owns W1.heap.size 151 3 prtC wr (.slice lo n lc) ((L.take k).map partV)) ∧ Hid (Below W1.heap.size W1 wr)) (fun _ i _ => L.length - (intOf i).toNat)
  case atStart => exact ⟨0, 0, none, 0, rfl, rfl, Nat.zero_le _, Owns.nil, Below.refl _ _⟩
  case round =>
    obtain ⟨k, n, lo, lc, rfl, rfl, hk, HO, HB⟩ := hrel
    by_cases hlt : k < L.length
    · obtain ⟨b, o, rfl, hbl, c0, c1, c2⟩ := (HSL.out.below HB.out).at3 hlt
      have HQ : Hid ((L.take (k + 1)).map partV = (L.take k).map partV ++ [partV L[k]]) := by
        show _ = _
        rw [List.take_add_one, List.getElem?_eq_getElem hlt, List.map_append]; rfl
      have HQL : Hid (L[k].text.length ≤ 1000000) := HTL.out _ (List.getElem_mem _)
      have HLN : Hid (((L.take k).map partV).length ≤ 900001) := by
        have := HCN.out
        rw [List.length_map, List.length_take]; show _ ≤ _; omega
      generalize hq : L[k] = q at *
      clear hq
      generalize hPL : (L.take k).map partV = PL at *
      clear hPL
      have hb := HB.out.size
      have hwk : IntKind.i64.wrap ((k : Int) + 1) = (k : Int) + 1 := IntWalk.i64_in _ (by have := HCN.out; omega)
      go_upto_region 7 with fail
      refine wp_world ?_
      intro W7 hW7
      have p1 : Box W7 wr.heap.size [.string (bs q.text), .bool q.hyphen, .bool q.close] := by rw [hW7]; exact (Box.new wr [.string (bs q.text), .bool q.hyphen, .bool q.close] _ _ rfl).alloc _
      have x1 : Box W7 (wr.heap.size + 1) [.bool q.hyphen, .bool false, .string ⟨#[]⟩] := by rw [hW7]; exact Box.new _ [.bool q.hyphen, .bool false, .string ⟨#[]⟩] _ _ (by simp)
      have hb7 : Below wr.heap.size wr W7 := by rw [hW7]; exact ((Below.refl _ wr).alloc (Nat.le_refl _) _).alloc (by simp) _
      clear hW7 c0 c1 c2
      have HP7 := Lib.hid p1
      have HX7 := Lib.hid x1
      have HO7 := Lib.hid (HO.out.below hb7)
      have HB7 := Lib.hid (HB.out.trans (hb7.mono hb))
      obtain ⟨H, hH⟩ : ∃ H, H = wr.heap.size := ⟨_, rfl⟩
      have HBH : Hid (W1.heap.size ≤ H) := by rw [hH]; exact hb
      have HOL : Hid (∀ j, (Value.slice lo n lc).ownBlock = some j → j < H) := fun j hj => by rw [hH]; exact (HO.out.lt j hj).2
      rw [← hH] at p1 HP7 HX7 hbl
      rw [← hH]
      clear hH x1 hb7 HO HB hb
      have k0 := p1.cell 0 _ rfl
      have kl := p1.lt
      clear p1
      go_wp2_with fail
      refine (isNumber_any (bs q.text) W7 (by rw [bs_size]; have := HQL.out; omega)).mono ?_
      rintro e w8 ⟨rfl, hb8⟩
      rw [bs_lst]
      have HP8 := Lib.hid (HP7.out.below hb8 HP7.out.lt)
      have HX8 := Lib.hid (HX7.out.below hb8 HX7.out.lt)
      have HO8 := Lib.hid (HO7.out.below hb8)
      have HB8 := Lib.hid (HB7.out.trans (hb8.mono HB7.out.size))
      clear hb8 k0 kl HP7 HX7 HO7 HB7
      have k0 := HP8.out.cell 0 _ rfl
      have k2 := HP8.out.cell 2 _ rfl
      have kl := HP8.out.lt
      have HOF : Hid (∀ W8, w8.grownBy W8 (some (H + 1)) → Owns W1.heap.size 151 3 prtC W8 (.slice lo n lc) PL) := fun W8 hg => HO8.out.kept hg (by
        cases hv : (Value.slice lo n lc).ownBlock with
        | none => exact .inl rfl
        | some j =>
          right
          intro e
          cases e
          have := HOL.out _ hv
          omega)
      cases hnm : isNum q.text with
      | true =>
        have hpv : partV q = ⟨q.hyphen, true, noNull q.text⟩ := by unfold partV; rw [if_pos hnm]
        have HPV := Lib.hid hpv
        clear hnm hpv
        have x1 := HX8.out.cell 1 _ rfl
        have x2 := HX8.out.cell 2 _ rfl
        have f1 := HX8.out.free 1
        have f2 := HX8.out.free 2
        have xl := HX8.out.lt
        go_wp2_with fail
        refine (trimLeft_any (bs q.text) w8).mono ?_
        rintro e w' ⟨x, rfl, hx, rfl⟩
        rw [bs_lst] at hx
        obtain rfl : x = bs (noNull q.text) := by rw [← bs_self x, hx]
        clear hx
        go_upto_region 10 with fail
        refine wp_world ?_
        intro W8 hW8
        have y1 : Box W8 (H + 1) [.bool (partV q).hyphen, .bool (partV q).number, .string (bs (partV q).text)] := by
          rw [hW8, HPV.out]
          exact (HX8.out.setOne (cs' := [.bool q.hyphen, .bool true, .string ⟨#[]⟩]) rfl (by simp)).setOne rfl (by simp)
        have hg8 : w8.grownBy W8 (some (H + 1)) := by rw [hW8]; exact (setCell_grown _ _ _ _).trans (setCell_grown _ _ _ _)
        clear hW8 x1 x2 f1 f2 xl k0 k2 kl
        have HO9 := Lib.hid (HOF.out W8 hg8)
        have HB9 := Lib.hid (HB8.out.trans (below_row hg8 (by have := HBH.out; omega) HB8.out.size))
        have HS8 : Hid (W1.heap.size ≤ W8.heap.size) := HB9.out.size
        have z0 := y1.cell 0 _ rfl
        have z1 := y1.cell 1 _ rfl
        have z2 := y1.cell 2 _ rfl
        have zl := y1.lt
        clear y1 hg8 HO8 HB8 HX8 HP8 HOF
        have HO8 := HO9
        clear HO9
        go_wp2_with (at_builtin; refine wpList_append_slice _ rfl _ _ 147 rfl W1.heap.size 151 Tryz.underlying147 info_pt rfl (by decide) prtC_len (.slice lo n lc) PL rfl (HO8.out.alloc _) _ [partV q] rfl (sliceLit prtC_len W8 [partV q] _ _ 1 rfl rfl (by simp [maxLen])) (prtC_ones _) (by have := HLN.out; simp only [List.length_singleton]; omega) (by decide) (by have := HS8.out; simp; omega) ?_; intro v9 w9 hown hgrow hloc; obtain ⟨lo9, lc9, hv9⟩ := hown.shape; subst hv9)
        have HBN : Hid (Below W1.heap.size W1 w9) := (HB9.out.alloc HS8.out _).grown hgrow (by have := HS8.out; simp; omega) (fun j hj => (HO8.out.lt j hj).1)
        rw [List.length_append, List.length_singleton] at hown
        have HON : Hid (Owns W1.heap.size 151 3 prtC w9 (.slice lo9 (PL.length + 1) lc9) ((L.take (k + 1)).map partV)) := by show Owns _ _ _ _ _ _ _; rw [HQ.out]; exact hown
        clear hgrow hloc hown
        go_roundw
        case rel => exact ⟨k + 1, _, lo9, lc9, rfl, by go_num, hlt, HON, HBN⟩
        case measure => simp [intOf]; omega
      | false =>
        have hpv : partV q = ⟨q.hyphen, false, wordW q.text q.close⟩ := by unfold partV; rw [if_neg (by rw [hnm]; simp)]
        have HPV := Lib.hid hpv
        clear hnm hpv
        have x2 := HX8.out.cell 2 _ rfl
        have f2 := HX8.out.free 2
        have xl := HX8.out.lt
        go_wp2_with fail
        refine (wordW_any (bs q.text) q.close w8).mono ?_
        rintro e w' ⟨rfl, rfl⟩
        rw [bs_lst]
        go_upto_region 10 with fail
        refine wp_world ?_
        intro W8 hW8
        have y1 : Box W8 (H + 1) [.bool (partV q).hyphen, .bool (partV q).number, .string (bs (partV q).text)] := by
          rw [hW8, HPV.out]
          exact HX8.out.setOne rfl (by simp)
        have hg8 : w8.grownBy W8 (some (H + 1)) := by rw [hW8]; exact setCell_grown _ _ _ _
        clear hW8 x2 f2 xl k0 k2 kl
        have HO9 := Lib.hid (HOF.out W8 hg8)
        have HB9 := Lib.hid (HB8.out.trans (below_row hg8 (by have := HBH.out; omega) HB8.out.size))
        have HS8 : Hid (W1.heap.size ≤ W8.heap.size) := HB9.out.size
        have z0 := y1.cell 0 _ rfl
        have z1 := y1.cell 1 _ rfl
        have z2 := y1.cell 2 _ rfl
        have zl := y1.lt
        clear y1 hg8 HO8 HB8 HX8 HP8 HOF
        have HO8 := HO9
        clear HO9
        go_wp2_with (at_builtin; refine wpList_append_slice _ rfl _ _ 147 rfl W1.heap.size 151 Tryz.underlying147 info_pt rfl (by decide) prtC_len (.slice lo n lc) PL rfl (HO8.out.alloc _) _ [partV q] rfl (sliceLit prtC_len W8 [partV q] _ _ 1 rfl rfl (by simp [maxLen])) (prtC_ones _) (by have := HLN.out; simp only [List.length_singleton]; omega) (by decide) (by have := HS8.out; simp; omega) ?_; intro v9 w9 hown hgrow hloc; obtain ⟨lo9, lc9, hv9⟩ := hown.shape; subst hv9)
        have HBN : Hid (Below W1.heap.size W1 w9) := (HB9.out.alloc HS8.out _).grown hgrow (by have := HS8.out; simp; omega) (fun j hj => (HO8.out.lt j hj).1)
        rw [List.length_append, List.length_singleton] at hown
        have HON : Hid (Owns W1.heap.size 151 3 prtC w9 (.slice lo9 (PL.length + 1) lc9) ((L.take (k + 1)).map partV)) := by show Owns _ _ _ _ _ _ _; rw [HQ.out]; exact hown
        clear hgrow hloc hown
        go_roundw
        case rel => exact ⟨k + 1, _, lo9, lc9, rfl, by go_num, hlt, HON, HBN⟩
        case measure => simp [intOf]; omega
    · obtain rfl : k = L.length := by omega
      rw [List.take_length, ← HRW.out] at HO
      have HRL : Hid ((rawV s.data.toList).length ≤ 900001) := by rw [HRW.out, List.length_map]; exact HCN.out
      have HPF : Hid ((rawV s.data.toList).take 1 ++ delV ((rawV s.data.toList).drop 1) = partsV s.data.toList) := parts_fin
      obtain ⟨p0, r0, hraw, hp0⟩ := rawV_head s.data.toList
      have HFH : Hid ((rawV s.data.toList)[0]? = some p0 ∧ p0.hyphen = false) := by rw [hraw]; exact ⟨rfl, hp0⟩
      have HR0 : Hid (0 < (rawV s.data.toList).length) := by show 0 < _; rw [hraw]; simp
      clear hraw HRW HCN HTL HSL hk hlt
      generalize rawV s.data.toList = R at *
      clear hp0
      obtain ⟨g, rfl, hbg, hgl, c0, f0, -, hst⟩ := own_store prtC_len HO.out HFH.out.1 (show 0 < 3 by decide)
      obtain ⟨_, _, hsh⟩ := HO.out.shape
      obtain rfl : n = R.length := by cases hsh; rfl
      rw [Nat.zero_mul, Nat.zero_add] at c0 f0 hst
      have c0' : wr.cell? ⟨g, 0, none⟩ = some (.bool false) := by rw [c0]; show some (Value.bool p0.hyphen) = _; rw [HFH.out.2]
      have hset := hst (.bool false) p0 (by show prtC p0 = (prtC p0).set 0 (.bool false); unfold prtC; rw [HFH.out.2]; rfl)
      have hRs : R.set 0 p0 = R := by
        cases R with
        | nil => rfl
        | cons a r => have := HFH.out.1; simp at this; rw [this]; rfl
      rw [hRs] at hset
      have HO2 := Lib.hid hset
      have HB2 : Hid (Below w.heap.size w (wr.setCell ⟨g, 0, none⟩ (.bool false))) := (HB1.out.trans (HB.out.mono HB1.out.size)).setCell (by have := HB1.out.size; show w.heap.size ≤ g; omega) _
      have hn0 : (0 : Int) < (R.length : Int) := by have := HR0.out; omega
      have hn0' : 0 < R.length := HR0.out
      have hwl : IntKind.i64.wrap ((R.length : Int) - 1) = ((R.length - 1 : Nat) : Int) := by rw [IntWalk.i64_in _ (by have := HRL.out; omega)]; omega
      clear hsh c0 hst hset hRs HB HO HFH
      clear hbg hgl
      go_wp2
      go_loopw [3, 8] (fun v i wr => ∃ (k n : Nat) (lo : Option Addr) (lc : Nat), v = .slice lo n lc ∧ i = .int .i64 k ∧ k < R.length ∧ Hid (Owns W1.heap.size 151 3 prtC wr (.slice lo n lc) (R.take (k + 1) ++ delV (R.drop (k + 1)))) ∧ Hid (Below w.heap.size w wr)) (fun _ i _ => (intOf i).toNat)
      case atStart => exact ⟨R.length - 1, R.length, some ⟨g, 0, none⟩, lc, rfl, rfl, by omega, by show Owns _ _ _ _ _ _ _; rw [Nat.sub_add_cancel hn0', List.take_length, List.drop_length]; simpa [delV] using HO2.out, HB2⟩
      case round =>
        obtain ⟨k, n, lo, lc, rfl, rfl, hk, HO, HB⟩ := hrel
        have hsz := HB.out.size
        by_cases h0 : 0 < k
        · have d0 : (0 : Int) < (k : Int) := by omega
          have hw1 : IntKind.i64.wrap ((k : Int) - 1) = ((k - 1 : Nat) : Int) := by rw [IntWalk.i64_in _ (by have := HRL.out; omega)]; omega
          have hw2 : IntKind.i64.wrap ((k : Int) + 1) = (k : Int) + 1 := IntWalk.i64_in _ (by have := HRL.out; omega)
          have HKP := Lib.hid (step_keep hk)
          have HGN := Lib.hid (step_gone hk)
          have HTK := Lib.hid (step_take hk)
          have HDL : Hid ((delV (R.drop (k + 1))).length ≤ R.length) := by
            show _ ≤ _
            have h1 := delV_len (R.drop (k + 1))
            rw [List.length_drop] at h1; omega
          have HDL2 : Hid ((delV (R.drop (k + 1))).length + k + 1 ≤ R.length) := by
            show _ ≤ _
            have h1 := delV_len (R.drop (k + 1))
            rw [List.length_drop] at h1; omega
          have HML : Hid ((R.take (k + 1) ++ delV (R.drop (k + 1))).length = k + 1 + (delV (R.drop (k + 1))).length) := by
            show _ = _
            rw [List.length_append, List.length_take, Nat.min_eq_left hk]
          have HMK : Hid ((R.take (k + 1) ++ delV (R.drop (k + 1)))[k]? = some R[k]) := by
            show _ = _
            rw [HTK.out, List.getElem?_append_right (by rw [List.length_take]; omega), List.length_take, Nat.min_eq_left (Nat.le_of_lt hk), Nat.sub_self]; rfl
          have HMN : Hid (∀ d D, delV (R.drop (k + 1)) = d :: D → (R.take (k + 1) ++ delV (R.drop (k + 1)))[k + 1]? = some d) := fun d D e => by
            rw [e, List.getElem?_append_right (by rw [List.length_take]; omega), List.length_take, Nat.min_eq_left hk, Nat.sub_self]; rfl
          generalize R[k] = p at *
          generalize hM : R.take (k + 1) ++ delV (R.drop (k + 1)) = M at *
          generalize delV (R.drop (k + 1)) = D at *
          have HM60 : Hid (M.length ≤ 1000000) := by have := HML.out; have := HDL2.out; have := HRL.out; show _ ≤ _; omega
          clear hM HTK
          obtain ⟨_, _, hsh⟩ := HO.out.shape
          obtain rfl : n = M.length := by cases hsh; rfl
          clear hsh
          obtain ⟨g, rfl, hbg, hgl, -, -, hcs, -⟩ := own_store prtC_len HO.out HMK.out (show 0 < 3 by decide)
          have c0 := hcs 0 _ rfl
          rw [Nat.add_zero] at c0
          have c1 := hcs 1 _ rfl
          have c2 := hcs 2 _ rfl
          have m1 : (k : Int) < (M.length : Int) := by have := HML.out; omega
          have m2 : k < M.length := by have := HML.out; omega
          clear hcs
          go_wp2_with fail
          refine (isNull_any p wr).mono ?_
          rintro e w2 ⟨rfl, hb2⟩
          have HO2 := Lib.hid (HO.out.below hb2)
          have HB2 := Lib.hid (HB.out.trans (hb2.mono hsz))
          clear hb2 c0 c1 c2 HO HB
          cases hnl : p.text.isEmpty with
          | false =>
            have hgv : goneV p D = false := by unfold goneV; rw [hnl]; rfl
            have HN := Lib.hid (HKP.out hgv)
            clear hgv hnl HKP HGN
            go_wp2
            go_roundw
            case rel => exact ⟨k - 1, M.length, some ⟨g, 0, none⟩, lc, rfl, rfl, by omega, by show Owns _ _ _ _ _ _ _; rw [Nat.sub_add_cancel h0, ← HN.out]; exact HO2.out, HB2⟩
            case measure => simp [intOf]; omega
          | true =>
            cases D with
            | nil =>
              have hgv : goneV p [] = true := by unfold goneV; rw [hnl]; rfl
              have HN := Lib.hid (HGN.out hgv)
              have HMZ : Hid (M.length = k + 1) := by show _ = _; have := HML.out; simpa using this
              have hl1 : IntKind.i64.wrap ((M.length : Int) - 1) = (k : Int) := by rw [IntWalk.i64_in _ (by have := HMZ.out; have := HRL.out; omega)]; have := HMZ.out; omega
              have HM6 : Hid (M.length ≤ 1000000) := by have := HMZ.out; have := HRL.out; show _ ≤ _; omega
              clear hgv hnl HKP HGN
              go_wp2_with fail
              refine (delete_any W1.heap.size g lc M k w2 m2 HM6.out HO2.out).mono ?_
              rintro e w3 ⟨rfl, hO3, hg3⟩
              have HO3 := Lib.hid hO3
              have HB3 := Lib.hid (HB2.out.trans (below_row hg3 (by have := HB1.out.size; omega) HB2.out.size))
              clear hO3 hg3
              go_wp2
              go_roundw
              case rel => exact ⟨k - 1, M.length - 1, some ⟨g, 0, none⟩, lc, rfl, rfl, by omega, by show Owns _ _ _ _ _ _ _; rw [Nat.sub_add_cancel h0, ← HN.out]; exact HO3.out, HB3⟩
              case measure => simp [intOf]; omega
            | cons d D =>
              have HM6 : Hid (M.length ≤ 1000000) := HM60
              have hl1 : IntKind.i64.wrap ((M.length : Int) - 1) = ((M.length - 1 : Nat) : Int) := by rw [IntWalk.i64_in _ (by have := HML.out; have := HRL.out; have := HDL.out; omega)]; have := HML.out; omega
              have hl2 : ((k : Int) == ((M.length - 1 : Nat) : Int)) = false := by rw [beq_eq_false_iff_ne]; have := HML.out; simp at this; omega
              have m3 : (k : Int) + 1 < (M.length : Int) := by have := HML.out; simp at this; omega
              have m4 : k + 1 < M.length := by have := HML.out; simp at this; omega
              have m5 : (0 : Int) ≤ (k : Int) + 1 := by omega
              have m6 : ((k : Int) + 1).toNat = k + 1 := by omega
              obtain ⟨_, hge, -, hgl2, -, -, hcs, -⟩ := own_store prtC_len HO2.out (HMN.out d D rfl) (show 0 < 3 by decide)
              cases hge
              have c0 := hcs 0 _ rfl
              rw [Nat.add_zero] at c0
              clear hcs
              cases hdh : d.hyphen with
              | true =>
                have hgv : goneV p (d :: D) = true := by unfold goneV; rw [hnl]; simp [hdh]
                have HN := Lib.hid (HGN.out hgv)
                rw [hdh] at c0
                clear hgv hnl HKP HGN hdh
                go_wp2_with fail
                refine (delete_any W1.heap.size g lc M k w2 m2 HM6.out HO2.out).mono ?_
                rintro e w3 ⟨rfl, hO3, hg3⟩
                have HO3 := Lib.hid hO3
                have HB3 := Lib.hid (HB2.out.trans (below_row hg3 (by have := HB1.out.size; omega) HB2.out.size))
                clear hO3 hg3
                go_wp2
                go_roundw
                case rel => exact ⟨k - 1, M.length - 1, some ⟨g, 0, none⟩, lc, rfl, rfl, by omega, by show Owns _ _ _ _ _ _ _; rw [Nat.sub_add_cancel h0, ← HN.out]; exact HO3.out, HB3⟩
                case measure => simp [intOf]; omega
              | false =>
                have hgv : goneV p (d :: D) = false := by unfold goneV; rw [hnl]; simp [hdh]
                have HN := Lib.hid (HKP.out hgv)
                rw [hdh] at c0
                clear hgv hnl HKP HGN hdh
                go_wp2
                go_roundw
                case rel => exact ⟨k - 1, M.length, some ⟨g, 0, none⟩, lc, rfl, rfl, by omega, by show Owns _ _ _ _ _ _ _; rw [Nat.sub_add_cancel h0, ← HN.out]; exact HO2.out, HB2⟩
                case measure => simp [intOf]; omega
        · obtain rfl : k = 0 := by omega
          go_wp2
          go_ret
          exact ⟨_, rfl, by rw [← HPF.out]; exact HO.out.base_mono HB1.out.size, HB.out⟩

end Go.Proofs.YtecffghcpknmjaaGreatDoor
