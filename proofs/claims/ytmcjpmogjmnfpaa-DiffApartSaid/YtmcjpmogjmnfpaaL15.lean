/- Walks: which edits may be, the program's; the conditions stand in the theorem. -/
import Derived.Test.YtmcjpmogjmnfpaaL14
namespace Go.Proofs.Ytmcjpmogjmnfpaa
open Go Go.RowKit

theorem mayE_left {l m : List Edit} (h : mayE (l ++ m) = true) : mayE l = true := by
  simp only [mayE, Bool.and_eq_true, List.all_append, List.map_append] at h ⊢
  exact ⟨h.1.1, rises_left h.2⟩
theorem mayE_first {ps : List Edit} (h : 0 < ps.length) (hp : editOk ps[0] = true) : mayE (ps.take 1) = true := by
  cases ps with
  | nil => simp at h
  | cons p ps => simpa [mayE, rises] using hp
theorem mayE_step {ps : List Edit} {k : Nat} (h : k + 1 < ps.length) (h0 : mayE (ps.take (k + 1)) = true) (hp : editOk ps[k + 1] = true) (hc : cmpK ps[k].key ps[k + 1].key = -1) : mayE (ps.take (k + 1 + 1)) = true := by
  rw [List.take_succ_eq_append_getElem h]
  rw [List.take_succ_eq_append_getElem (by omega)] at h0 ⊢
  simp only [mayE, Bool.and_eq_true, List.all_append, List.map_append, List.map_cons, List.map_nil, List.append_assoc, List.cons_append, List.nil_append] at h0 ⊢
  refine ⟨⟨h0.1.1, by have := h0.1.2; simp at this ⊢; exact ⟨this, hp⟩⟩, ?_⟩
  rw [rises_snoc, h0.2, hc]; rfl
theorem mayE_no1 {ps : List Edit} {k : Nat} (h : k < ps.length) (hp : editOk ps[k] = false) : mayE ps = false := by
  have : ps.all editOk = false := by rw [List.all_eq_false]; exact ⟨ps[k], List.getElem_mem h, by rw [hp]; simp⟩
  simp [mayE, this]
theorem mayE_no2 {ps : List Edit} {k : Nat} (h : k + 1 < ps.length) (hc : cmpK ps[k].key ps[k + 1].key ≠ -1) : mayE ps = false := by
  cases hh : mayE ps
  · rfl
  · exfalso
    have h1 : ps = ps.take k ++ [ps[k], ps[k + 1]] ++ ps.drop (k + 1 + 1) := by
      conv => lhs; rw [← List.take_append_drop (k + 1 + 1) ps]
      rw [List.take_succ_eq_append_getElem h, List.take_succ_eq_append_getElem (by omega)]
      simp
    rw [h1] at hh
    have h2 := mayE_left hh
    simp only [mayE, Bool.and_eq_true, List.map_append, List.map_cons, List.map_nil] at h2
    rw [rises_snoc, Bool.and_eq_true, decide_eq_true_eq] at h2
    exact hc h2.2.2

theorem eql_pinB (p q : Pin) (w : World) : (binOp .eql 44 (.agg #[.string p.key.group, .string p.key.artifact, .string p.key.type, .string p.key.classifier, .string p.version, .int .i64 p.scope]) (.agg #[.string q.key.group, .string q.key.artifact, .string q.key.type, .string q.key.classifier, .string q.version, .int .i64 q.scope])).run Try.prog w = .ok (.bool (pinEq p q)) w := eql_pinE p q w
def rightE (e : Edit) : Bool := (e.had || e.has) && sideOk e.key e.had e.old && sideOk e.key e.has e.new
theorem editOk_no0 {e : Edit} (h : rightE e = false) : editOk e = false := by
  unfold rightE at h; unfold editOk; rw [h]; rfl
theorem editOk_no1 {e : Edit} (h1 : pinEq e.old e.new = true) (h2 : (e.had == e.has) = true) : editOk e = false := by
  unfold pinEq at h1; unfold editOk; rw [h1, h2]; simp
theorem editOk_y1 {e : Edit} (h : rightE e = true) (h1 : pinEq e.old e.new = false) : editOk e = true := by
  unfold rightE at h; unfold pinEq at h1; unfold editOk; rw [h, h1]; rfl
theorem editOk_y2 {e : Edit} (h : rightE e = true) (h1 : (e.had == e.has) = false) : editOk e = true := by
  unfold rightE at h; unfold editOk; rw [h, h1]; simp

attribute [local go_sem ↓] eqg_pinE eql_pinB in
set_option maxRecDepth 100000 in
set_option maxHeartbeats 16000000 in
theorem may_any (l : List Edit) (v : Value) (w : World) (hv : SliceOf 18 editC w v l) : Calls Try.prog 12 #[v] w fun e w' => e = .returned (.bool (mayE l)) ∧ Below w.heap.size w w' := by
  have hlm : l.length ≤ 9223372036854775807 := by obtain ⟨a, c, e, h2, h3, -⟩ := hv; exact Nat.le_trans h2 (Nat.le_trans h3 (by decide))
  obtain ⟨ao, ac, rfl⟩ := hv.shape
  have HV := Lib.hid hv
  clear hv
  go_enter Try.func12, Try.ntmps12
  go_wp2_with fail
  go_loopw [8] (fun iv wr => ∃ i : Nat, i ≤ l.length ∧ iv = .int .i64 i ∧ Hid (mayE (l.take i) = true) ∧ Below w.heap.size w wr) (fun iv _ => l.length - (intOf iv).toNat)
  case atStart => exact ⟨0, Nat.zero_le _, rfl, rfl, Below.refl _ _⟩
  case round =>
    obtain ⟨i, hi, rfl, HOK, hb⟩ := hrel
    have HBR := Lib.hid hb
    have hsr := hb.size
    by_cases hlt : i < l.length
    · have hltI : (i : Int) < (l.length : Int) := by omega
      obtain ⟨g, o, rfl, hg, hc⟩ := (HV.out.below hb).at hlt
      have HRG : Hid (wr.rangeAt g (o + i * 18) (editC l[i])) := fun q u h => hc q u h
      have HSLR := Lib.hid (HV.out.below hb)
      have hx4 : Hid (Box (wr.alloc (.cells #[.string ⟨#[]⟩, .string ⟨#[]⟩, .string ⟨#[]⟩, .string ⟨#[]⟩, .bool false, .bool false, .string ⟨#[]⟩, .string ⟨#[]⟩, .string ⟨#[]⟩, .string ⟨#[]⟩, .string ⟨#[]⟩, .int .i64 0, .string ⟨#[]⟩, .string ⟨#[]⟩, .string ⟨#[]⟩, .string ⟨#[]⟩, .string ⟨#[]⟩, .int .i64 0] 46)) wr.heap.size [.string ⟨#[]⟩, .string ⟨#[]⟩, .string ⟨#[]⟩, .string ⟨#[]⟩, .bool false, .bool false, .string ⟨#[]⟩, .string ⟨#[]⟩, .string ⟨#[]⟩, .string ⟨#[]⟩, .string ⟨#[]⟩, .int .i64 0, .string ⟨#[]⟩, .string ⟨#[]⟩, .string ⟨#[]⟩, .string ⟨#[]⟩, .string ⟨#[]⟩, .int .i64 0]) := Box.new wr _ _ _ rfl
      have HNO1 : Hid (editOk l[i] = false → mayE l = false) := fun h => mayE_no1 hlt h
      have HST : Hid (∀ j (h : i = j + 1), editOk l[i] = true → cmpK (l[j]'(by omega)).key l[i].key = -1 → mayE (l.take (i + 1)) = true) := fun j h hp hc => by subst h; exact mayE_step hlt HOK.out hp hc
      have HNO2 : Hid (∀ j (h : i = j + 1), cmpK (l[j]'(by omega)).key l[i].key ≠ -1 → mayE l = false) := fun j h hc => by subst h; exact mayE_no2 hlt hc
      have HF1 : Hid (i = 0 → editOk l[i] = true → mayE (l.take (i + 1)) = true) := fun h hp => by subst h; exact mayE_first hlt hp
      clear hc hb
      generalize l[i] = e at *
      go_upto_region 4 with (first | ((with_reducible show wpList _ _ _ (Oper.mk _ (Op.load 46 (.tmp 11)) _ _ _ _ :: _) _ _); refine wpList_load_mid rfl 46 (.tmp 11) rfl g (o + i * 18) rfl (editC e) _ HRG.out Try.underlying46 rfl size_edit ?_) | ((with_reducible show wpList _ _ _ (Oper.mk none (Op.store 46 (.tmp 4) (.tmp 12)) _ _ _ _ :: _) _ _); refine wpList_store_box rfl 46 (.tmp 4) (.tmp 12) rfl wr.heap.size [.string ⟨#[]⟩, .string ⟨#[]⟩, .string ⟨#[]⟩, .string ⟨#[]⟩, .bool false, .bool false, .string ⟨#[]⟩, .string ⟨#[]⟩, .string ⟨#[]⟩, .string ⟨#[]⟩, .string ⟨#[]⟩, .int .i64 0, .string ⟨#[]⟩, .string ⟨#[]⟩, .string ⟨#[]⟩, .string ⟨#[]⟩, .string ⟨#[]⟩, .int .i64 0] (editC e) rfl rfl hx4.out rfl size_edit editC_one ?_; intro W v0 hg0))
      have X4 := Lib.hid v0
      have HBW := Lib.hid (((Below.refl _ wr).alloc (Nat.le_refl _) _).trans (below_grown hg0 (by simp) |>.mono (by omega)))
      have hs1 := HBW.out.size
      clear hx4 v0 hg0 HRG
      obtain ⟨k, had, has, old, new⟩ := e
      obtain ⟨rt, hrt⟩ : ∃ rt, rt = rightE ⟨k, had, has, old, new⟩ := ⟨_, rfl⟩
      have HRR := Lib.hid hrt
      clear hrt
      simp only [Act.put]
      go_cut [5] from 13 to 36 (fun v wx => v = .bool rt ∧ Below W.heap.size W wx)
      case first =>
        cases had <;> cases has
        · skip
          have n0 := X4.out.cell 0 _ rfl
          have n1 := X4.out.cell 1 _ rfl
          have n2 := X4.out.cell 2 _ rfl
          have n3 := X4.out.cell 3 _ rfl
          have n4 := X4.out.cell 4 _ rfl
          have n5 := X4.out.cell 5 _ rfl
          have n6 := X4.out.cell 6 _ rfl
          have n7 := X4.out.cell 7 _ rfl
          have n8 := X4.out.cell 8 _ rfl
          have n9 := X4.out.cell 9 _ rfl
          have n10 := X4.out.cell 10 _ rfl
          have n11 := X4.out.cell 11 _ rfl
          have n12 := X4.out.cell 12 _ rfl
          have n13 := X4.out.cell 13 _ rfl
          have n14 := X4.out.cell 14 _ rfl
          have n15 := X4.out.cell 15 _ rfl
          have n16 := X4.out.cell 16 _ rfl
          have n17 := X4.out.cell 17 _ rfl
          have hr : rt = false := HRR.out.trans rfl
          go_wp2_with fail
          go_meet
          exact ⟨by rw [hr], Below.refl _ _⟩
        · skip
          have n0 := X4.out.cell 0 _ rfl
          have n1 := X4.out.cell 1 _ rfl
          have n2 := X4.out.cell 2 _ rfl
          have n3 := X4.out.cell 3 _ rfl
          have n4 := X4.out.cell 4 _ rfl
          have n5 := X4.out.cell 5 _ rfl
          have n6 := X4.out.cell 6 _ rfl
          have n7 := X4.out.cell 7 _ rfl
          have n8 := X4.out.cell 8 _ rfl
          have n9 := X4.out.cell 9 _ rfl
          have n10 := X4.out.cell 10 _ rfl
          have n11 := X4.out.cell 11 _ rfl
          have n12 := X4.out.cell 12 _ rfl
          have n13 := X4.out.cell 13 _ rfl
          have n14 := X4.out.cell 14 _ rfl
          have n15 := X4.out.cell 15 _ rfl
          have n16 := X4.out.cell 16 _ rfl
          have n17 := X4.out.cell 17 _ rfl
          have HQ1 := Lib.hid (isSide_any k false old W)
          have HQ2 := Lib.hid (fun W' => isSide_any k true new W')
          have HRT : Hid (rt = (sideOk k false old && sideOk k true new)) := HRR.out
          clear HRR
          generalize sideOk k false old = r1 at *
          generalize sideOk k true new = r2 at *
          go_wp2_with fail
          refine HQ1.out.mono ?_
          rintro e w2 ⟨rfl, hb2⟩
          have x5 := X4.out.below hb2 X4.out.lt
          have X5 := Lib.hid x5
          have HB2 := Lib.hid hb2
          clear n0 n1 n2 n3 n4 n5 n6 n7 n8 n9 n10 n11 n12 n13 n14 n15 n16 n17 x5 hb2
          have n0 := X5.out.cell 0 _ rfl
          have n1 := X5.out.cell 1 _ rfl
          have n2 := X5.out.cell 2 _ rfl
          have n3 := X5.out.cell 3 _ rfl
          have n4 := X5.out.cell 4 _ rfl
          have n5 := X5.out.cell 5 _ rfl
          have n6 := X5.out.cell 6 _ rfl
          have n7 := X5.out.cell 7 _ rfl
          have n8 := X5.out.cell 8 _ rfl
          have n9 := X5.out.cell 9 _ rfl
          have n10 := X5.out.cell 10 _ rfl
          have n11 := X5.out.cell 11 _ rfl
          have n12 := X5.out.cell 12 _ rfl
          have n13 := X5.out.cell 13 _ rfl
          have n14 := X5.out.cell 14 _ rfl
          have n15 := X5.out.cell 15 _ rfl
          have n16 := X5.out.cell 16 _ rfl
          have n17 := X5.out.cell 17 _ rfl
          cases r1 with
          | false =>
            have hr : rt = false := HRT.out
            go_wp2_with fail
            go_meet
            exact ⟨by rw [hr], HB2.out⟩
          | true =>
            have hr : rt = r2 := HRT.out
            go_wp2_with fail
            refine (HQ2.out _).mono ?_
            rintro e w3 ⟨rfl, hb3⟩
            clear n0 n1 n2 n3 n4 n5 n6 n7 n8 n9 n10 n11 n12 n13 n14 n15 n16 n17
            go_wp2_with fail
            go_meet
            exact ⟨by rw [hr], HB2.out.trans (hb3.mono HB2.out.size)⟩
        · skip
          have n0 := X4.out.cell 0 _ rfl
          have n1 := X4.out.cell 1 _ rfl
          have n2 := X4.out.cell 2 _ rfl
          have n3 := X4.out.cell 3 _ rfl
          have n4 := X4.out.cell 4 _ rfl
          have n5 := X4.out.cell 5 _ rfl
          have n6 := X4.out.cell 6 _ rfl
          have n7 := X4.out.cell 7 _ rfl
          have n8 := X4.out.cell 8 _ rfl
          have n9 := X4.out.cell 9 _ rfl
          have n10 := X4.out.cell 10 _ rfl
          have n11 := X4.out.cell 11 _ rfl
          have n12 := X4.out.cell 12 _ rfl
          have n13 := X4.out.cell 13 _ rfl
          have n14 := X4.out.cell 14 _ rfl
          have n15 := X4.out.cell 15 _ rfl
          have n16 := X4.out.cell 16 _ rfl
          have n17 := X4.out.cell 17 _ rfl
          have HQ1 := Lib.hid (isSide_any k true old W)
          have HQ2 := Lib.hid (fun W' => isSide_any k false new W')
          have HRT : Hid (rt = (sideOk k true old && sideOk k false new)) := HRR.out
          clear HRR
          generalize sideOk k true old = r1 at *
          generalize sideOk k false new = r2 at *
          go_wp2_with fail
          refine HQ1.out.mono ?_
          rintro e w2 ⟨rfl, hb2⟩
          have x5 := X4.out.below hb2 X4.out.lt
          have X5 := Lib.hid x5
          have HB2 := Lib.hid hb2
          clear n0 n1 n2 n3 n4 n5 n6 n7 n8 n9 n10 n11 n12 n13 n14 n15 n16 n17 x5 hb2
          have n0 := X5.out.cell 0 _ rfl
          have n1 := X5.out.cell 1 _ rfl
          have n2 := X5.out.cell 2 _ rfl
          have n3 := X5.out.cell 3 _ rfl
          have n4 := X5.out.cell 4 _ rfl
          have n5 := X5.out.cell 5 _ rfl
          have n6 := X5.out.cell 6 _ rfl
          have n7 := X5.out.cell 7 _ rfl
          have n8 := X5.out.cell 8 _ rfl
          have n9 := X5.out.cell 9 _ rfl
          have n10 := X5.out.cell 10 _ rfl
          have n11 := X5.out.cell 11 _ rfl
          have n12 := X5.out.cell 12 _ rfl
          have n13 := X5.out.cell 13 _ rfl
          have n14 := X5.out.cell 14 _ rfl
          have n15 := X5.out.cell 15 _ rfl
          have n16 := X5.out.cell 16 _ rfl
          have n17 := X5.out.cell 17 _ rfl
          cases r1 with
          | false =>
            have hr : rt = false := HRT.out
            go_wp2_with fail
            go_meet
            exact ⟨by rw [hr], HB2.out⟩
          | true =>
            have hr : rt = r2 := HRT.out
            go_wp2_with fail
            refine (HQ2.out _).mono ?_
            rintro e w3 ⟨rfl, hb3⟩
            clear n0 n1 n2 n3 n4 n5 n6 n7 n8 n9 n10 n11 n12 n13 n14 n15 n16 n17
            go_wp2_with fail
            go_meet
            exact ⟨by rw [hr], HB2.out.trans (hb3.mono HB2.out.size)⟩
        · skip
          have n0 := X4.out.cell 0 _ rfl
          have n1 := X4.out.cell 1 _ rfl
          have n2 := X4.out.cell 2 _ rfl
          have n3 := X4.out.cell 3 _ rfl
          have n4 := X4.out.cell 4 _ rfl
          have n5 := X4.out.cell 5 _ rfl
          have n6 := X4.out.cell 6 _ rfl
          have n7 := X4.out.cell 7 _ rfl
          have n8 := X4.out.cell 8 _ rfl
          have n9 := X4.out.cell 9 _ rfl
          have n10 := X4.out.cell 10 _ rfl
          have n11 := X4.out.cell 11 _ rfl
          have n12 := X4.out.cell 12 _ rfl
          have n13 := X4.out.cell 13 _ rfl
          have n14 := X4.out.cell 14 _ rfl
          have n15 := X4.out.cell 15 _ rfl
          have n16 := X4.out.cell 16 _ rfl
          have n17 := X4.out.cell 17 _ rfl
          have HQ1 := Lib.hid (isSide_any k true old W)
          have HQ2 := Lib.hid (fun W' => isSide_any k true new W')
          have HRT : Hid (rt = (sideOk k true old && sideOk k true new)) := HRR.out
          clear HRR
          generalize sideOk k true old = r1 at *
          generalize sideOk k true new = r2 at *
          go_wp2_with fail
          refine HQ1.out.mono ?_
          rintro e w2 ⟨rfl, hb2⟩
          have x5 := X4.out.below hb2 X4.out.lt
          have X5 := Lib.hid x5
          have HB2 := Lib.hid hb2
          clear n0 n1 n2 n3 n4 n5 n6 n7 n8 n9 n10 n11 n12 n13 n14 n15 n16 n17 x5 hb2
          have n0 := X5.out.cell 0 _ rfl
          have n1 := X5.out.cell 1 _ rfl
          have n2 := X5.out.cell 2 _ rfl
          have n3 := X5.out.cell 3 _ rfl
          have n4 := X5.out.cell 4 _ rfl
          have n5 := X5.out.cell 5 _ rfl
          have n6 := X5.out.cell 6 _ rfl
          have n7 := X5.out.cell 7 _ rfl
          have n8 := X5.out.cell 8 _ rfl
          have n9 := X5.out.cell 9 _ rfl
          have n10 := X5.out.cell 10 _ rfl
          have n11 := X5.out.cell 11 _ rfl
          have n12 := X5.out.cell 12 _ rfl
          have n13 := X5.out.cell 13 _ rfl
          have n14 := X5.out.cell 14 _ rfl
          have n15 := X5.out.cell 15 _ rfl
          have n16 := X5.out.cell 16 _ rfl
          have n17 := X5.out.cell 17 _ rfl
          cases r1 with
          | false =>
            have hr : rt = false := HRT.out
            go_wp2_with fail
            go_meet
            exact ⟨by rw [hr], HB2.out⟩
          | true =>
            have hr : rt = r2 := HRT.out
            go_wp2_with fail
            refine (HQ2.out _).mono ?_
            rintro e w3 ⟨rfl, hb3⟩
            clear n0 n1 n2 n3 n4 n5 n6 n7 n8 n9 n10 n11 n12 n13 n14 n15 n16 n17
            go_wp2_with fail
            go_meet
            exact ⟨by rw [hr], HB2.out.trans (hb3.mono HB2.out.size)⟩
      case rest =>
        obtain ⟨rfl, hb2⟩ := hcut
        have HBC := Lib.hid hb2
        have x5 := X4.out.below hb2 X4.out.lt
        have X5 := Lib.hid x5
        have l5 := x5.lt
        have HRG2 := Lib.hid (HSLR.out.below (HBW.out.trans (hb2.mono hs1)))
        have HBA : Hid (Below w.heap.size w wc) := HBR.out.trans ((HBW.out.mono hsr).trans (hb2.mono (Nat.le_trans hsr hs1)))
        clear x5 hb2
        have n0 := X5.out.cell 0 _ rfl
        have n1 := X5.out.cell 1 _ rfl
        have n2 := X5.out.cell 2 _ rfl
        have n3 := X5.out.cell 3 _ rfl
        have n4 := X5.out.cell 4 _ rfl
        have n5 := X5.out.cell 5 _ rfl
        have n6 := X5.out.cell 6 _ rfl
        have n7 := X5.out.cell 7 _ rfl
        have n8 := X5.out.cell 8 _ rfl
        have n9 := X5.out.cell 9 _ rfl
        have n10 := X5.out.cell 10 _ rfl
        have n11 := X5.out.cell 11 _ rfl
        have n12 := X5.out.cell 12 _ rfl
        have n13 := X5.out.cell 13 _ rfl
        have n14 := X5.out.cell 14 _ rfl
        have n15 := X5.out.cell 15 _ rfl
        have n16 := X5.out.cell 16 _ rfl
        have n17 := X5.out.cell 17 _ rfl
        have hLL := @Later.cells wc
        have hgc : g < wc.heap.size := Nat.lt_of_lt_of_le hg (Nat.le_trans HBW.out.size HBC.out.size)
        go_wp2_with fail
        cases rt with
        | false =>
          refine region_later (by kernel_rfl) (by kernel_rfl) ?_
          repeat (go_big_quiet_step (fail))
          refine wpQuiet_nil ?_
          rintro _ ⟨nx, rfl⟩
          have HR : Hid (mayE l = false) := HNO1.out (editOk_no0 HRR.out.symm)
          have HZ : Hid (Below w.heap.size w nx.at_) := HBA.out.trans (nx.below.mono HBA.out.size)
          clear hLL n0 n1 n2 n3 n4 n5 n6 n7 n8 n9 n10 n11 n12 n13 n14 n15 n16 n17 l5
          generalize nx.at_ = wn at *
          go_wp2
          go_ret
          exact ⟨ret_bool HR.out.symm, HZ.out⟩
        | true =>
          have HRT := Lib.hid HRR.out.symm
          clear HRR
          obtain ⟨d1, hd⟩ : ∃ d, d = pinEq old new := ⟨_, rfl⟩
          obtain ⟨d2, hq⟩ : ∃ d, d = (had == has) := ⟨_, rfl⟩
          cases d1 with
          | true =>
            cases d2 with
            | true =>
              have hd2 := hd.symm
              have hq2 := hq.symm
              have HD := Lib.hid hd2
              have HQ := Lib.hid hq2
              clear hd hq
              refine region_later (by kernel_rfl) (by kernel_rfl) ?_
              repeat (go_big_quiet_step (fail))
              refine wpQuiet_nil ?_
              rintro _ ⟨nx, rfl⟩
              have HR : Hid (mayE l = false) := HNO1.out (editOk_no1 HD.out HQ.out)
              have HZ : Hid (Below w.heap.size w nx.at_) := HBA.out.trans (nx.below.mono HBA.out.size)
              clear hLL n0 n1 n2 n3 n4 n5 n6 n7 n8 n9 n10 n11 n12 n13 n14 n15 n16 n17 l5
              generalize nx.at_ = wn at *
              go_wp2
              go_ret
              exact ⟨ret_bool HR.out.symm, HZ.out⟩
            | false =>
              have hd2 := hd.symm
              have hq2 := hq.symm
              have HD := Lib.hid hd2
              have HQ := Lib.hid hq2
              clear hd hq
              have HEO : Hid (editOk ⟨k, had, has, old, new⟩ = true) := editOk_y2 HRT.out HQ.out
              by_cases hi0 : i = 0
              · have dk : decide ((0 : Int) < (i : Int)) = false := by rw [decide_eq_false_iff_not]; omega
                have dkN : decide (0 < i) = false := by rw [decide_eq_false_iff_not]; omega
                have HOK2 : Hid (mayE (l.take (i + 1)) = true) := HF1.out hi0 HEO.out
                refine region_later (by kernel_rfl) (by kernel_rfl) ?_
                repeat (go_big_quiet_step (fail))
                refine wpQuiet_nil ?_
                rintro _ ⟨nx, rfl⟩
                have HZ : Hid (Below w.heap.size w nx.at_) := HBA.out.trans (nx.below.mono HBA.out.size)
                clear hLL n0 n1 n2 n3 n4 n5 n6 n7 n8 n9 n10 n11 n12 n13 n14 n15 n16 n17 l5
                generalize nx.at_ = wn at *
                go_wp2
                go_roundw
                case rel => exact ⟨i + 1, hlt, by go_num, HOK2.out, HZ.out⟩
                case measure => simp [intOf]; omega
              · obtain ⟨j, hj⟩ : ∃ j, i = j + 1 := ⟨i - 1, by omega⟩
                have dk : decide ((0 : Int) < (i : Int)) = true := by rw [decide_eq_true_iff]; omega
                have dkN : decide (0 < i) = true := by rw [decide_eq_true_iff]; omega
                have hjl : j < l.length := by omega
                have hjI : (j : Int) < (l.length : Int) := by omega
                have wj : IntKind.i64.wrap ((i : Int) - 1) = (j : Int) := by rw [show (i : Int) - 1 = (j : Int) by omega]; exact IntWalk.i64_in _ (by omega)
                obtain ⟨bb', oo', hbe, -, hcell⟩ := HRG2.out.at hjl
                simp only [Option.some.injEq, Addr.mk.injEq] at hbe
                obtain ⟨rfl, rfl, -⟩ := hbe
                have q0 : wc.cell? ⟨g, o + j * 18, none⟩ = some (.string l[j].key.group) := by simpa using hcell 0 _ rfl
                have q1 : wc.cell? ⟨g, o + j * 18 + 1, none⟩ = some (.string l[j].key.artifact) := hcell 1 _ rfl
                have q2 : wc.cell? ⟨g, o + j * 18 + 2, none⟩ = some (.string l[j].key.type) := hcell 2 _ rfl
                have q3 : wc.cell? ⟨g, o + j * 18 + 3, none⟩ = some (.string l[j].key.classifier) := hcell 3 _ rfl
                have HST2 : Hid (cmpK l[j].key k = -1 → mayE (l.take (i + 1)) = true) := HST.out j hj HEO.out
                have HNO3 : Hid (cmpK l[j].key k ≠ -1 → mayE l = false) := HNO2.out j hj
                clear hcell hi0 hj HST HNO2 HF1 HNO1
                generalize l[j] = f at *
                obtain ⟨c, hc⟩ : ∃ c, c = cmpK f.key k := ⟨_, rfl⟩
                have HC := Lib.hid (fun (x : Later wc) => compare_l f.key k x c hc.symm)
                rw [← hc] at HST2 HNO3
                have hcr : c = -1 ∨ c = 0 ∨ c = 1 := by rw [hc]; exact cmpK_range _ _
                clear hc
                by_cases hc1 : c = -1
                · have e1 : decide ((0 : Int) ≤ c) = false := by rw [decide_eq_false_iff_not]; omega
                  have HOK3 := Lib.hid (HST2.out hc1)
                  clear hc1 hcr
                  have HOK2 : Hid (mayE (l.take (i + 1)) = true) := HOK3.out
                  refine region_later (by kernel_rfl) (by kernel_rfl) ?_
                  repeat (go_big_quiet_step ((go_at_call 31; exact HC.out _)))
                  refine wpQuiet_nil ?_
                  rintro _ ⟨nx, rfl⟩
                  have HZ : Hid (Below w.heap.size w nx.at_) := HBA.out.trans (nx.below.mono HBA.out.size)
                  clear hLL n0 n1 n2 n3 n4 n5 n6 n7 n8 n9 n10 n11 n12 n13 n14 n15 n16 n17 l5
                  generalize nx.at_ = wn at *
                  go_wp2
                  go_roundw
                  case rel => exact ⟨i + 1, hlt, by go_num, HOK2.out, HZ.out⟩
                  case measure => simp [intOf]; omega
                · have e1 : decide ((0 : Int) ≤ c) = true := by rw [decide_eq_true_iff]; omega
                  have HR3 := Lib.hid (HNO3.out hc1)
                  clear hc1 hcr
                  refine region_later (by kernel_rfl) (by kernel_rfl) ?_
                  repeat (go_big_quiet_step ((go_at_call 31; exact HC.out _)))
                  refine wpQuiet_nil ?_
                  rintro _ ⟨nx, rfl⟩
                  have HR : Hid (mayE l = false) := HR3.out
                  have HZ : Hid (Below w.heap.size w nx.at_) := HBA.out.trans (nx.below.mono HBA.out.size)
                  clear hLL n0 n1 n2 n3 n4 n5 n6 n7 n8 n9 n10 n11 n12 n13 n14 n15 n16 n17 l5
                  generalize nx.at_ = wn at *
                  go_wp2
                  go_ret
                  exact ⟨ret_bool HR.out.symm, HZ.out⟩
          | false =>
            have hd2 := hd.symm
            have HD := Lib.hid hd2
            clear hd hq
            have HEO : Hid (editOk ⟨k, had, has, old, new⟩ = true) := editOk_y1 HRT.out HD.out
            by_cases hi0 : i = 0
            · have dk : decide ((0 : Int) < (i : Int)) = false := by rw [decide_eq_false_iff_not]; omega
              have dkN : decide (0 < i) = false := by rw [decide_eq_false_iff_not]; omega
              have HOK2 : Hid (mayE (l.take (i + 1)) = true) := HF1.out hi0 HEO.out
              refine region_later (by kernel_rfl) (by kernel_rfl) ?_
              repeat (go_big_quiet_step (fail))
              refine wpQuiet_nil ?_
              rintro _ ⟨nx, rfl⟩
              have HZ : Hid (Below w.heap.size w nx.at_) := HBA.out.trans (nx.below.mono HBA.out.size)
              clear hLL n0 n1 n2 n3 n4 n5 n6 n7 n8 n9 n10 n11 n12 n13 n14 n15 n16 n17 l5
              generalize nx.at_ = wn at *
              go_wp2
              go_roundw
              case rel => exact ⟨i + 1, hlt, by go_num, HOK2.out, HZ.out⟩
              case measure => simp [intOf]; omega
            · obtain ⟨j, hj⟩ : ∃ j, i = j + 1 := ⟨i - 1, by omega⟩
              have dk : decide ((0 : Int) < (i : Int)) = true := by rw [decide_eq_true_iff]; omega
              have dkN : decide (0 < i) = true := by rw [decide_eq_true_iff]; omega
              have hjl : j < l.length := by omega
              have hjI : (j : Int) < (l.length : Int) := by omega
              have wj : IntKind.i64.wrap ((i : Int) - 1) = (j : Int) := by rw [show (i : Int) - 1 = (j : Int) by omega]; exact IntWalk.i64_in _ (by omega)
              obtain ⟨bb', oo', hbe, -, hcell⟩ := HRG2.out.at hjl
              simp only [Option.some.injEq, Addr.mk.injEq] at hbe
              obtain ⟨rfl, rfl, -⟩ := hbe
              have q0 : wc.cell? ⟨g, o + j * 18, none⟩ = some (.string l[j].key.group) := by simpa using hcell 0 _ rfl
              have q1 : wc.cell? ⟨g, o + j * 18 + 1, none⟩ = some (.string l[j].key.artifact) := hcell 1 _ rfl
              have q2 : wc.cell? ⟨g, o + j * 18 + 2, none⟩ = some (.string l[j].key.type) := hcell 2 _ rfl
              have q3 : wc.cell? ⟨g, o + j * 18 + 3, none⟩ = some (.string l[j].key.classifier) := hcell 3 _ rfl
              have HST2 : Hid (cmpK l[j].key k = -1 → mayE (l.take (i + 1)) = true) := HST.out j hj HEO.out
              have HNO3 : Hid (cmpK l[j].key k ≠ -1 → mayE l = false) := HNO2.out j hj
              clear hcell hi0 hj HST HNO2 HF1 HNO1
              generalize l[j] = f at *
              obtain ⟨c, hc⟩ : ∃ c, c = cmpK f.key k := ⟨_, rfl⟩
              have HC := Lib.hid (fun (x : Later wc) => compare_l f.key k x c hc.symm)
              rw [← hc] at HST2 HNO3
              have hcr : c = -1 ∨ c = 0 ∨ c = 1 := by rw [hc]; exact cmpK_range _ _
              clear hc
              by_cases hc1 : c = -1
              · have e1 : decide ((0 : Int) ≤ c) = false := by rw [decide_eq_false_iff_not]; omega
                have HOK3 := Lib.hid (HST2.out hc1)
                clear hc1 hcr
                have HOK2 : Hid (mayE (l.take (i + 1)) = true) := HOK3.out
                refine region_later (by kernel_rfl) (by kernel_rfl) ?_
                repeat (go_big_quiet_step ((go_at_call 31; exact HC.out _)))
                refine wpQuiet_nil ?_
                rintro _ ⟨nx, rfl⟩
                have HZ : Hid (Below w.heap.size w nx.at_) := HBA.out.trans (nx.below.mono HBA.out.size)
                clear hLL n0 n1 n2 n3 n4 n5 n6 n7 n8 n9 n10 n11 n12 n13 n14 n15 n16 n17 l5
                generalize nx.at_ = wn at *
                go_wp2
                go_roundw
                case rel => exact ⟨i + 1, hlt, by go_num, HOK2.out, HZ.out⟩
                case measure => simp [intOf]; omega
              · have e1 : decide ((0 : Int) ≤ c) = true := by rw [decide_eq_true_iff]; omega
                have HR3 := Lib.hid (HNO3.out hc1)
                clear hc1 hcr
                refine region_later (by kernel_rfl) (by kernel_rfl) ?_
                repeat (go_big_quiet_step ((go_at_call 31; exact HC.out _)))
                refine wpQuiet_nil ?_
                rintro _ ⟨nx, rfl⟩
                have HR : Hid (mayE l = false) := HR3.out
                have HZ : Hid (Below w.heap.size w nx.at_) := HBA.out.trans (nx.below.mono HBA.out.size)
                clear hLL n0 n1 n2 n3 n4 n5 n6 n7 n8 n9 n10 n11 n12 n13 n14 n15 n16 n17 l5
                generalize nx.at_ = wn at *
                go_wp2
                go_ret
                exact ⟨ret_bool HR.out.symm, HZ.out⟩
    · obtain rfl : i = l.length := by omega
      have HF : Hid (mayE l = true) := by have := HOK.out; rwa [List.take_length] at this
      clear hlt
      go_wp2
      go_ret
      exact ⟨ret_bool HF.out.symm, HBR.out⟩

end Go.Proofs.Ytmcjpmogjmnfpaa
