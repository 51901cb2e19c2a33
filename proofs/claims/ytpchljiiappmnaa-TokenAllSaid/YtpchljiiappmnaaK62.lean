/- Walks of the document's reader: plain; the conditions stand in the theorems. -/
import Derived.Test.YtpchljiiappmnaaK61
namespace Go.Proofs.Ytpchljiiappmnaa
open Go Go.RowKit

theorem plain_pre {til l : Bs} (h : til.isPrefixOf l = true) : plain til l = .ok [] (l.drop til.length) := by
  cases l <;> simp only [plain, h, if_true]
theorem plain_end {til : Bs} (h : til.isPrefixOf [] = false) : plain til [] = .bad 13 [] := by
  simp [plain, h]
theorem plain_no {til l : Bs} {c : UInt8} (h : til.isPrefixOf (c :: l) = false) (hc : cText c = false) : plain til (c :: l) = .bad 10 (c :: l) := by
  simp [plain, h, hc]
theorem plain_go {til l : Bs} {c : UInt8} (h : til.isPrefixOf (c :: l) = false) (hc : cText c = true) : plain til (c :: l) = (plain til l).map (c :: ·) := by
  simp [plain, h, hc]
theorem map_map_app {til l0 l : Bs} {pre : Bs} {c : UInt8} (h : plain til l0 = (plain til (c :: l)).map (pre ++ ·)) (h2 : plain til (c :: l) = (plain til l).map (c :: ·)) : plain til l0 = (plain til l).map ((pre ++ [c]) ++ ·) := by
  rw [h, h2]
  cases plain til l <;> simp [Res.map]

set_option maxRecDepth 100000 in
set_option maxHeartbeats 4000000 in
theorem rplain_any (b : Nat) (s t : S) (l : Bs) (k : Nat) (w : World) (h : RR w b s l 0 0) (hs : s.size ≤ 1000000) (hk : k ≤ l.length) (ht : t.size ≤ 1000000) :
    Calls Try.prog 88 #[.pointer (some ⟨b, 0, none⟩), .int .i64 k, .string t] w (ROut (fun n => .string (bs n)) (.string ⟨#[]⟩) b s w (plain t.data.toList (l.drop k))) := by
  have HH := Lib.hid h
  have c1 := h.c1
  have f1 := h.box.free 1
  have hlt := h.box.lt
  obtain ⟨l0, hl0⟩ : ∃ l0, l0 = l.drop k := ⟨_, rfl⟩
  have hsuf0 : l0 <:+ s.data.toList := by rw [hl0]; exact (List.drop_suffix k l).trans h.suf
  obtain ⟨q, hq⟩ : ∃ q, q = pos s l0 := ⟨_, rfl⟩
  have hq2 : pos s l + k = q := by
    have h1 := pos_add hsuf0
    have h2 := pos_add h.suf
    rw [hq]; rw [hl0] at h1 ⊢; rw [List.length_drop] at h1; omega
  have HQ := Lib.hid hq
  have HS0 := Lib.hid hsuf0
  have hqs : q ≤ s.size := by have := pos_add hsuf0; omega
  have w0 : IntKind.i64.wrap ((pos s l : Int) + (k : Int)) = (q : Int) := by rw [IntWalk.i64_in _ (by omega)]; omega
  rw [← hl0]
  clear h hl0 hsuf0 hq hq2 hk
  generalize pos s l = p at *
  go_enter Try.func88, Try.ntmps88
  go_wp2
  clear c1 f1 w0 hlt
  go_loopw [] (fun wr => ∃ l' pre, RR wr b s l' 0 0 ∧ w.grownBy wr (some b) ∧ Hid (l0 = pre ++ l') ∧ Hid (plain t.data.toList l0 = (plain t.data.toList l').map (pre ++ ·))) (fun wr => s.size - (placeOf wr b).toNat)
  case atStart =>
    refine ⟨l0, [], HH.out.move HS0.out (by rw [← HQ.out]), setCell_grown _ b 1 _, rfl, ?_⟩
    show _ = _
    cases plain t.data.toList l0 <;> rfl
  case round =>
    obtain ⟨l', pre, hR, hg, HL, HB⟩ := hrel
    have HR := Lib.hid hR
    have HG := Lib.hid hg
    have HN : Hid (Calls Try.prog 87 #[.pointer (some ⟨b, 0, none⟩), .string t] wr (Qt (.bool (t.data.toList.isPrefixOf l')) wr)) := rbegins_any b s t l' 0 0 wr hR hs
    have hp := pos_add hR.suf
    have HP := Lib.hid hp
    have HPL := Lib.hid hR.place
    clear hR hg hp
    cases hpre : t.data.toList.isPrefixOf l'
    · have HPRE := Lib.hid hpre
      rw [hpre] at HN
      clear hpre
      cases l' with
      | nil =>
        go_wp2_with fail
        refine HN.out.mono ?_
        rintro e W ⟨rfl, n, hW⟩
        have hR1 : RR W b s [] 0 0 := by rw [hW]; exact HR.out.drewN n
        have hG1 : Hid (w.grownBy W (some b)) := by rw [hW]; exact HG.out.trans (grownN wr n _)
        clear hW
        have HE : Hid (Calls Try.prog 119 #[.pointer (some ⟨b, 0, none⟩)] W (RGo (.bool true) b s [] 13 s.size W)) := rend_end b s 0 W hR1
        clear hR1
        go_wp2_with fail
        refine HE.out.mono ?_
        rintro e w2 ⟨rfl, hR2, hG2⟩
        have HR2 := Lib.hid hR2
        have HG2 := Lib.hid hG2
        clear hR2 hG2
        go_wp2
        go_ret
        have hO : plain t.data.toList l0 = .bad 13 [] := by rw [HB.out, plain_end HPRE.out]; rfl
        rw [hO]
        exact ⟨[], rfl, by rw [pos_nil]; exact HR2.out, hG1.out.trans HG2.out⟩
      | cons c r =>
        go_wp2_with fail
        refine HN.out.mono ?_
        rintro e W ⟨rfl, n, hW⟩
        have hR1 : RR W b s (c :: r) 0 0 := by rw [hW]; exact HR.out.drewN n
        have hG1 : Hid (w.grownBy W (some b)) := by rw [hW]; exact HG.out.trans (grownN wr n _)
        clear hW
        have HE : Hid (Calls Try.prog 119 #[.pointer (some ⟨b, 0, none⟩)] W (Qt (.bool false) W)) := rend_no b s c r W 0 hR1
        have HR1 := Lib.hid hR1
        clear hR1
        go_wp2_with fail
        refine HE.out.mono ?_
        rintro e W2 ⟨rfl, n, hW⟩
        have hR2 : RR W2 b s (c :: r) 0 0 := by rw [hW]; exact HR1.out.drewN n
        have hG2 : Hid (w.grownBy W2 (some b)) := by rw [hW]; exact hG1.out.trans (grownN W n _)
        clear hW HE
        have c0 := hR2.c0
        have c1 := hR2.c1
        have f1 := hR2.box.free 1
        have hlt := hR2.box.lt
        have hpl := pos_lt hR2.suf
        have HGT := Lib.hid (pos_get hR2.suf hpl)
        have HC := Lib.hid (pos_cons hR2.suf)
        have HS := Lib.hid (suf_tail hR2.suf)
        have HR2 := Lib.hid hR2
        clear hR2
        generalize hpp : pos s (c :: r) = p at *
        have HPP := Lib.hid hpp
        clear hpp
        have hpi : (p : Int) < (s.size : Int) := by omega
        have w1 : IntKind.i64.wrap ((p : Int) + 1) = (p : Int) + 1 := IntWalk.i64_in _ (by omega)
        have HF : Hid (∀ (W : World) z, RR W b s (c :: r) 0 0 → Calls Try.prog 120 #[.pointer (some ⟨b, 0, none⟩), .int .i64 10, .int .i64 z] W (RGo (.tuple #[]) b s (c :: r) 10 z W)) := fun W z hW => rfail_go b s (c :: r) 0 10 z W hW
        cases hcb : cText c
        all_goals
          have HI : Hid (∀ (W : World) n, Calls Try.prog 26 #[.int .u8 s[p].toNat, .int .i64 16] (W.drewN n) fun e w'' => e = .returned (.bool _) ∧ ∃ m, w'' = W.drewN m) := fun W n => quietS (by have := is16_any s[p] (W.drewN n); rw [HGT.out, hcb] at this; rw [HGT.out]; exact this)
          have HCB := Lib.hid hcb
          clear hcb
          go_wp2
          go_quiet ((go_at_call 26; exact HI.out _ _))
        · go_wp2_with fail
          refine (HF.out _ _ (HR2.out.drewN _)).mono ?_
          rintro e w3 ⟨rfl, hR3, hG3⟩
          have HR3 := Lib.hid hR3
          have HG3 := Lib.hid hG3
          clear hR3 hG3
          go_wp2
          go_ret
          have hO : plain t.data.toList l0 = .bad 10 (c :: r) := by rw [HB.out, plain_no HPRE.out HCB.out]; rfl
          rw [hO]
          exact ⟨c :: r, rfl, by rw [HPP.out]; exact HR3.out, hG2.out.trans ((grownN W2 _ _).trans HG3.out)⟩
        · go_wp2
          go_roundw
          case rel =>
            refine ⟨r, pre ++ [c], (HR2.out.drewN _).move HS.out (by rw [HC.out]; rfl), hG2.out.trans ((grownN W2 _ _).trans (setCell_grown _ b 1 _)), ?_, ?_⟩
            · show _ = _; rw [HL.out]; simp
            · exact map_map_app HB.out (plain_go HPRE.out HCB.out)
          case measure =>
            have h3 : placeOf ((W2.drewN nq).setCell ⟨b, 1, none⟩ (.int .i64 ((p : Int) + 1))) b = (p : Int) + 1 := by
              have := ((HR2.out.drewN nq).move HS.out (v := .int .i64 ((p : Int) + 1)) (by rw [HC.out]; rfl)).place
              rw [this, HC.out]; omega
            rw [h3, HPL.out]; omega
    · have HPRE := Lib.hid hpre
      rw [hpre] at HN
      have hlen := (List.isPrefixOf_iff_prefix.1 hpre).length_le
      rw [size_data] at hlen
      clear hpre
      go_wp2_with fail
      refine HN.out.mono ?_
      rintro e W ⟨rfl, n, hW⟩
      have hR1 : RR W b s l' 0 0 := by rw [hW]; exact HR.out.drewN n
      have hG1 : Hid (w.grownBy W (some b)) := by rw [hW]; exact HG.out.trans (grownN wr n _)
      clear hW
      have c0 := hR1.c0
      have c1 := hR1.c1
      have f1 := hR1.box.free 1
      have hlt := hR1.box.lt
      have hsd : l'.drop t.size <:+ s.data.toList := (List.drop_suffix t.size l').trans hR1.suf
      have HS := Lib.hid hsd
      have hp2 : pos s (l'.drop t.size) = pos s l' + t.size := by
        have h1 := pos_add hsd; have h2 := pos_add hR1.suf; rw [List.length_drop] at h1; omega
      have hp3 : pos s l' = q + pre.length := by
        have h1 := pos_add HS0.out; have h2 := pos_add hR1.suf; rw [← HQ.out] at h1; rw [HL.out, List.length_append] at h1; omega
      have HX : Hid (s.extract q (pos s l') = bs pre) := by
        show _ = _
        rw [hp3, Lib.extract_eq, HQ.out, pos_drop HS0.out, Nat.add_sub_cancel_left, HL.out, List.take_left']
        · rfl
        · rfl
      have HP2 := Lib.hid hp2
      have hps : pos s l' ≤ s.size := by have := pos_add hR1.suf; omega
      have hqp : q ≤ pos s l' := by omega
      have HR1 := Lib.hid hR1
      clear hR1 hsd hp2 hp3 hlen
      generalize pos s l' = p at *
      have d1 : (q : Int) ≤ (p : Int) := by omega
      have d2 : (p : Int) ≤ (s.size : Int) := by omega
      have w1 : IntKind.i64.wrap ((p : Int) + (t.size : Int)) = (p : Int) + (t.size : Int) := IntWalk.i64_in _ (by omega)
      go_wp2
      go_quiet (fail)
      go_wp2
      go_ret
      have hO : plain t.data.toList l0 = .ok pre (l'.drop t.size) := by rw [HB.out, plain_pre HPRE.out, ← size_data t]; simp [Res.map]
      rw [hO]
      exact ⟨by rw [HX.out]; rfl, (HR1.out.drewN _).move HS.out (by rw [HP2.out]; rfl), hG1.out.trans ((grownN W _ _).trans (setCell_grown _ b 1 _))⟩

end Go.Proofs.Ytpchljiiappmnaa
