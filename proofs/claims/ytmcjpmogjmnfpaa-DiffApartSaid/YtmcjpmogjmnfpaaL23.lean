/- Walks: which edits are looked at; the conditions stand in the theorem. -/
import Derived.Test.YtmcjpmogjmnfpaaL15
namespace Go.Proofs.Ytmcjpmogjmnfpaa
open Go Go.RowKit

theorem keys3 (w : World) (a b c : Key) (N : Nat) (hN : w.heap.size = N) : SliceOf 4 keyC (w.alloc (.cells #[.string a.group, .string a.artifact, .string a.type, .string a.classifier, .string b.group, .string b.artifact, .string b.type, .string b.classifier, .string c.group, .string c.artifact, .string c.type, .string c.classifier] 42)) (.slice (some ⟨N, 0, none⟩) 3 3) [a, b, c] :=
  sliceLit keyC_len w [a, b, c] 42 N 3 hN rfl (by simp [maxLen])

set_option maxRecDepth 100000 in
set_option maxHeartbeats 8000000 in
theorem lightE_any (l : List Edit) (v : Value) (w : World) (hv : SliceOf 18 editC w v l) : Calls Try.prog 13 #[v] w (RetB (l.length ≤ 60) w) := by
  have hlm : l.length ≤ 9223372036854775807 := by obtain ⟨a, c, e, h2, h3, -⟩ := hv; exact Nat.le_trans h2 (Nat.le_trans h3 (by decide))
  obtain ⟨ao, ac, rfl⟩ := hv.shape
  have HV := Lib.hid hv
  clear hv
  go_enter Try.func13, Try.ntmps13
  by_cases h60 : l.length ≤ 60
  rotate_left
  · have hgi : (60 : Int) < (l.length : Int) := by omega
    go_wp2
    go_ret
    exact RetB.no (Below.refl _ _)
  have HL := Lib.hid h60
  have hgi : ¬ (60 : Int) < (l.length : Int) := by omega
  clear h60
  go_wp2_with fail
  go_loopw [12] (fun iv wr => ∃ i : Nat, i ≤ l.length ∧ iv = .int .i64 i ∧ Below w.heap.size w wr) (fun iv _ => l.length - (intOf iv).toNat)
  case atStart => exact ⟨0, Nat.zero_le _, rfl, Below.refl _ _⟩
  case round =>
    obtain ⟨wo, rfl⟩ : ∃ wo : World, wo = wr := ⟨_, rfl⟩
    obtain ⟨i, hi, rfl, hb⟩ := hrel
    have HBR := Lib.hid hb
    have hsr := hb.size
    by_cases hlt : i < l.length
    · have hltI : (i : Int) < (l.length : Int) := by omega
      obtain ⟨g, o, rfl, hg, hc⟩ := (HV.out.below hb).at hlt
      have HRG : Hid (wo.rangeAt g (o + i * 18) (editC l[i])) := fun q u h => hc q u h
      have hx4 : Hid (Box (wo.alloc (.cells #[.string ⟨#[]⟩, .string ⟨#[]⟩, .string ⟨#[]⟩, .string ⟨#[]⟩, .bool false, .bool false, .string ⟨#[]⟩, .string ⟨#[]⟩, .string ⟨#[]⟩, .string ⟨#[]⟩, .string ⟨#[]⟩, .int .i64 0, .string ⟨#[]⟩, .string ⟨#[]⟩, .string ⟨#[]⟩, .string ⟨#[]⟩, .string ⟨#[]⟩, .int .i64 0] 46)) wo.heap.size [.string ⟨#[]⟩, .string ⟨#[]⟩, .string ⟨#[]⟩, .string ⟨#[]⟩, .bool false, .bool false, .string ⟨#[]⟩, .string ⟨#[]⟩, .string ⟨#[]⟩, .string ⟨#[]⟩, .string ⟨#[]⟩, .int .i64 0, .string ⟨#[]⟩, .string ⟨#[]⟩, .string ⟨#[]⟩, .string ⟨#[]⟩, .string ⟨#[]⟩, .int .i64 0]) := Box.new wo _ _ _ rfl
      clear hc hb
      generalize l[i] = e at *
      go_upto_region 6 with (first | ((with_reducible show wpList _ _ _ (Oper.mk _ (Op.load 46 (.tmp 14)) _ _ _ _ :: _) _ _); refine wpList_load_mid rfl 46 (.tmp 14) rfl g (o + i * 18) rfl (editC e) _ HRG.out Try.underlying46 rfl size_edit ?_) | ((with_reducible show wpList _ _ _ (Oper.mk none (Op.store 46 (.tmp 4) (.tmp 15)) _ _ _ _ :: _) _ _); refine wpList_store_box rfl 46 (.tmp 4) (.tmp 15) rfl wo.heap.size [.string ⟨#[]⟩, .string ⟨#[]⟩, .string ⟨#[]⟩, .string ⟨#[]⟩, .bool false, .bool false, .string ⟨#[]⟩, .string ⟨#[]⟩, .string ⟨#[]⟩, .string ⟨#[]⟩, .string ⟨#[]⟩, .int .i64 0, .string ⟨#[]⟩, .string ⟨#[]⟩, .string ⟨#[]⟩, .string ⟨#[]⟩, .string ⟨#[]⟩, .int .i64 0] (editC e) rfl rfl hx4.out rfl size_edit editC_one ?_; intro W v0 hg0))
      have X4 := Lib.hid v0
      have HBW := Lib.hid (((Below.refl _ wo).alloc (Nat.le_refl _) _).trans (below_grown hg0 (by simp) |>.mono (by omega)))
      have hs1 := HBW.out.size
      clear hx4 v0 hg0 HRG hg
      have n0 := X4.out.cell 0 _ rfl
      have n1 := X4.out.cell 1 _ rfl
      have n2 := X4.out.cell 2 _ rfl
      have n3 := X4.out.cell 3 _ rfl
      have n6 := X4.out.cell 6 _ rfl
      have n7 := X4.out.cell 7 _ rfl
      have n8 := X4.out.cell 8 _ rfl
      have n9 := X4.out.cell 9 _ rfl
      have n12 := X4.out.cell 12 _ rfl
      have n13 := X4.out.cell 13 _ rfl
      have n14 := X4.out.cell 14 _ rfl
      have n15 := X4.out.cell 15 _ rfl
      simp only [Act.put]
      go_wp2_with fail
      refine wp_world ?_
      intro V hV
      have HK3 : Hid (SliceOf 4 keyC V (.slice (some ⟨W.heap.size, 0, none⟩) 3 3) [e.key, e.old.key, e.new.key]) := by rw [hV]; exact keys3 W e.key e.old.key e.new.key W.heap.size rfl
      have HBV : Hid (Below W.heap.size W V) := by rw [hV]; exact (Below.refl _ W).alloc (Nat.le_refl _) _
      have XV : Hid (Box V wo.heap.size (editC e)) := by rw [hV]; exact X4.out.alloc _
      have HBX : Hid (Below w.heap.size w V) := HBR.out.trans ((HBW.out.mono hsr).trans (HBV.out.mono (Nat.le_trans hsr hs1)))
      have hsV := HBX.out.size
      clear hV n0 n1 n2 n3 n6 n7 n8 n9 n12 n13 n14 n15
      generalize hkk : [e.key, e.old.key, e.new.key] = ks at *
      have h3 : ks.length = 3 := by rw [← hkk]; rfl
      have H3 := Lib.hid h3
      clear hkk h3
      go_loopw [26] (fun kv wk => ∃ k : Nat, k ≤ 3 ∧ kv = .int .i64 k ∧ Below V.heap.size V wk) (fun kv _ => 3 - (intOf kv).toNat)
      case atStart => exact ⟨0, by omega, rfl, Below.refl _ _⟩
      case round =>
        obtain ⟨k, hk, rfl, hb⟩ := hrel
        have HBK := Lib.hid hb
        have hsk := hb.size
        have HBWK : Hid (Below w.heap.size w wr) := HBX.out.trans (hb.mono hsV)
        have hsw := HBWK.out.size
        by_cases hk3 : k < 3
        · have hkI : (k : Int) < 3 := by omega
          obtain ⟨g', o', he, hg', hc⟩ := (HK3.out.below hb).at (k := k) (by rw [H3.out]; exact hk3)
          cases he
          have d0 : wr.cell? ⟨W.heap.size, 0 + k * 4, none⟩ = some (.string (ks[k]'(by rw [H3.out]; exact hk3)).group) := by simpa using hc 0 _ rfl
          have d1 : wr.cell? ⟨W.heap.size, 0 + k * 4 + 1, none⟩ = some (.string (ks[k]'(by rw [H3.out]; exact hk3)).artifact) := hc 1 _ rfl
          have d2 : wr.cell? ⟨W.heap.size, 0 + k * 4 + 2, none⟩ = some (.string (ks[k]'(by rw [H3.out]; exact hk3)).type) := hc 2 _ rfl
          have d3 : wr.cell? ⟨W.heap.size, 0 + k * 4 + 3, none⟩ = some (.string (ks[k]'(by rw [H3.out]; exact hk3)).classifier) := hc 3 _ rfl
          rw [Nat.zero_add] at d0 d1 d2 d3
          clear hc hb
          generalize ks[k]'(by rw [H3.out]; exact hk3) = q at *
          go_wp2_with fail
          · go_wp2
            go_ret
            exact RetB.no (HBWK.out.alloc hsw _)
          · go_wp2
            go_roundw
            case rel => exact ⟨k + 1, by omega, by go_num, HBK.out.alloc hsk _⟩
            case measure => simp [intOf]; omega
        · obtain rfl : k = 3 := by omega
          have XR := XV.out.below hb XV.out.lt
          have n10 := XR.cell 10 _ rfl
          have n16 := XR.cell 16 _ rfl
          clear hk3 hb XR
          go_wp2_with fail
          · go_wp2
            go_ret
            exact RetB.no HBWK.out
          · go_wp2
            go_roundw
            case rel => exact ⟨i + 1, hlt, by go_num, HBWK.out⟩
            case measure => simp [intOf]; omega
    · obtain rfl : i = l.length := by omega
      clear hlt hb
      go_wp2
      go_ret
      exact RetB.yes HL.out HBR.out

end Go.Proofs.Ytmcjpmogjmnfpaa
