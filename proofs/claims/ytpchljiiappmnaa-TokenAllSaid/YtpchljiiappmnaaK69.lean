/- The walk of the document's All; the conditions stand in the theorem. -/
import Derived.Test.YtpchljiiappmnaaK68
import Derived.Test.YtpchljiiappmnaaK29
import Derived.Test.YtpchljiiappmnaaK26
namespace Go.Proofs.Ytpchljiiappmnaa
open Go Go.RowKit

/-- What the document's All returns. -/
def RAllOut (s : S) (w : World) : Res (List (Tk × Bs)) → Ending → World → Prop
  | .ok acc _ => fun e w' => ∃ ov L, e = .returned (.tuple #[ov, .int .i64 0, .int .i64 0]) ∧ TokSl w.heap.size w' s ov L acc ∧ Below w.heap.size w w'
  | .bad x r => fun e w' => e = .returned (.tuple #[.slice none 0 0, .int .i64 x, .int .i64 (pos s r : Nat)]) ∧ Below w.heap.size w w'

/-- What the document's loop over tokens has done so far. -/
structure RAll (w wr : World) (s : S) (v : Value) (l : Bs) (acc : List (Tk × Bs)) (f : Nat) (first : Bool) (L : List TkM) : Prop where
  rd : RR wr w.heap.size s l 0 0
  below : Below w.heap.size w wr
  sl : TokSl (w.heap.size + 1) wr s v L acc
  spec : allR s.data.toList = allGo f first acc l
  fuel : l.length ≤ f
  len : acc.length + l.length ≤ s.size
  fst : first = decide (pos s l = 0)

theorem TokSl.base_mono {b b' : Nat} {w : World} {s : S} {v : Value} {L : List TkM} {acc : List (Tk × Bs)} (h : TokSl b w s v L acc) (hb : b' ≤ b) : TokSl b' w s v L acc :=
  ⟨h.own.base_mono hb, fun x hx => (h.att x hx).base_mono hb, h.is⟩

theorem tkC_one' {x : TkM} {ao : Option Addr} {m c : Nat} (h : x.av = .slice ao m c) : ∀ u ∈ tkC x, u.oneCell' = true := by
  intro u hu; simp [tkC] at hu; rcases hu with rfl | rfl | rfl | rfl | rfl | rfl | rfl <;> first | rfl | (rw [h]; rfl)

theorem allGo_ok {f : Nat} {first : Bool} {acc : List (Tk × Bs)} {l r : Bs} {t : Tk} (h : tokenR first l = .ok t r) (hl : l ≠ []) (hf : l.length ≤ f) : allGo f first acc l = allGo (f - 1) false (acc ++ [(t, l)]) r := by
  cases l with
  | nil => exact absurd rfl hl
  | cons c l =>
    cases f with
    | zero => simp at hf
    | succ f => simp only [allGo]; rw [h]; rfl
theorem allGo_bad {f : Nat} {first : Bool} {acc : List (Tk × Bs)} {l r : Bs} {e : Int} (h : tokenR first l = .bad e r) (hl : l ≠ []) (hf : l.length ≤ f) : allGo f first acc l = .bad e r := by
  cases l with
  | nil => exact absurd rfl hl
  | cons c l =>
    cases f with
    | zero => simp at hf
    | succ f => simp only [allGo]; rw [h]
theorem tokenR_bad_ne {first : Bool} {l r : Bs} {x : Int} (h : tokenR first l = .bad x r) : x ≠ 0 := by
  have hp : ∀ {til l r : Bs} {x : Int}, plain til l = .bad x r → x ≠ 0 := by
    intro til l
    induction l with
    | nil => intro r x h; simp only [plain] at h; split at h <;> cases h; decide
    | cons c l ih =>
      intro r x h
      simp only [plain] at h
      split at h
      · cases h
      · split at h
        · cases hq : plain til l with
          | ok a b => rw [hq] at h; cases h
          | bad e b => rw [hq] at h; cases h; exact ih hq
        · cases h; decide
  have hpm : ∀ {til l r : Bs} {x : Int} {g : Bs → Tk}, (plain til l).map g = .bad x r → x ≠ 0 := by
    intro til l r x g h
    cases hq : plain til l with
    | ok a b => rw [hq] at h; cases h
    | bad e b => rw [hq] at h; cases h; exact hp hq
  have hlm : ∀ {l r : Bs} {x : Int} {g : Bs → Tk}, (letters 60 l).map g = .bad x r → x ≠ 0 := by
    intro l r x g h
    cases hq : letters 60 l with
    | ok a b => rw [hq] at h; cases h
    | bad e b => rw [hq] at h; cases h; exact lettersGo_bad_ne hq
  have hwm : ∀ {l r : Bs} {x : Int} {g : Unit → Tk}, (wantC 62 l).map g = .bad x r → x ≠ 0 := by
    intro l r x g h
    cases hq : wantC 62 l with
    | ok a b => rw [hq] at h; cases h
    | bad e b => rw [hq] at h; cases h; exact wantC_bad_ne hq
  have hc : ∀ {l r : Bs} {x : Int}, closeR l = .bad x r → x ≠ 0 := by
    intro l r x h
    unfold closeR at h
    cases hn : nameR 11 l with
    | bad e b => rw [hn] at h; cases h; exact nameR_bad_ne (by decide) hn
    | ok nm b => rw [hn] at h; exact hwm h
  have ho : ∀ {l r : Bs} {x : Int}, openR l = .bad x r → x ≠ 0 := by
    intro l r x h
    unfold openR at h
    cases hn : nameR 11 l with
    | bad e b => rw [hn] at h; cases h; exact nameR_bad_ne (by decide) hn
    | ok nm b =>
      rw [hn] at h
      simp only [Res.bind] at h
      cases ha : attrsR b with
      | bad e c => rw [ha] at h; cases h; exact attrsR_bad_ne ha
      | ok as' c =>
        rw [ha] at h
        simp only at h
        split at h
        · exact hwm h
        · exact hwm h
  unfold tokenR at h
  split at h
  · exact hpm h
  · split at h
    · exact hpm h
    · split at h
      · exact hpm h
      · split at h
        · exact hc h
        · exact ho h
        · exact hlm h

set_option maxRecDepth 100000 in
set_option maxHeartbeats 8000000 in
theorem rall_any (s : S) (w : World) (hs : s.size ≤ 65536) :
    Calls Try.prog 21 #[.string s] w (RAllOut s w (allR s.data.toList)) := by
  have hsi : ¬ (65536 : Int) < (s.size : Int) := by omega
  have h1 : RR (w.alloc (.cells #[.string s, .int .i64 0, .int .i64 0, .int .i64 0] 81)) w.heap.size s s.data.toList 0 0 :=
    ⟨by have := Box.new w [.string s, .int .i64 0, .int .i64 0, .int .i64 0] 81 _ rfl; rw [show pos s s.data.toList = 0 by unfold pos; rw [size_data]; omega]; exact this, List.suffix_refl _⟩
  have hI : RAll w (w.alloc (.cells #[.string s, .int .i64 0, .int .i64 0, .int .i64 0] 81)) s (.slice none 0 0) s.data.toList [] s.data.toList.length true [] :=
    ⟨h1, (Below.refl _ _).alloc (Nat.le_refl _) _, ⟨Owns.nil, by simp, rfl⟩, rfl, Nat.le_refl _, by simp, by rw [show pos s s.data.toList = 0 by unfold pos; rw [size_data]; omega]; rfl⟩
  have HI := Lib.hid hI
  clear hI h1
  go_enter Try.func21, Try.ntmps21
  go_wp2
  go_loopw [6] (fun v wr => ∃ l acc f first L, RAll w wr s v l acc f first L) (fun _ wr => s.size - (placeOf wr w.heap.size).toNat)
  case atStart => exact ⟨_, _, _, _, _, HI.out⟩
  case round =>
    clear HI
    obtain ⟨l, acc, f, first, L, hL⟩ := hrel
    have HL := Lib.hid hL
    have c1 := hL.rd.c1
    have hlt := hL.rd.box.lt
    have hp := pos_add hL.rd.suf
    have HLL := Lib.hid hL.sl.len
    have hal := hL.len
    have hLb : L.length ≤ 1000000 := by have := HLL.out; omega
    obtain ⟨ao, cap, rfl⟩ := hL.sl.own.shape
    by_cases hnil : l = []
    · subst hnil
      have hp' : pos s [] = s.size := pos_nil s
      rw [hp'] at c1
      clear hp hL hp'
      go_wp2
      go_ret3
      have hO : allR s.data.toList = .ok acc [] := by rw [HL.out.spec]; cases f <;> rfl
      rw [hO]
      exact ⟨_, L, rfl, HL.out.sl.base_mono (by omega), HL.out.below⟩
    · have hne : 0 < l.length := by cases l with | nil => exact absurd rfl hnil | cons c l => simp
      have hcall := rnext_any w.heap.size s l first wr hL.rd (by omega) hL.fst
      have HNIL := Lib.hid hnil
      have hpi : (pos s l : Int) < (s.size : Int) := by omega
      clear hL hnil
      generalize hp0 : pos s l = p at *
      have HP0 := Lib.hid hp0
      clear hp0
      generalize hli : (lineCol (s.data.toList.take p)).1 = li at *
      generalize hco : (lineCol (s.data.toList.take p)).2 = co at *
      have HLI := Lib.hid hli
      have HCO := Lib.hid hco
      clear hli hco
      cases htk : tokenR first l with
      | bad x r =>
        rw [htk] at hcall
        have HTK := Lib.hid htk
        have hx0 : x ≠ 0 := tokenR_bad_ne htk
        have e0 : (x != 0) = true := by rw [bne_iff_ne]; exact hx0
        clear htk hx0
        have HCL := Lib.hid hcall
        clear hcall
        go_wp2_with fail
        refine HCL.out.mono ?_
        intro e W1 hO
        obtain ⟨k, n, ao2, m2, c2', tx, l2, rfl, hR1, hg1⟩ : ∃ k n ao m c tx l', RGo (.agg (tkV k n (.slice ao m c) tx p li co).toArray) w.heap.size s l' x (pos s r : Nat) wr e W1 := hO
        have hsz1 := hg1.size
        have hB1 : Below w.heap.size w W1 := HL.out.below.trans (below_grown hg1 HL.out.below.size)
        unfold tkV
        go_upto_region 7 with fail
        refine wp_world ?_
        intro W2 hW2
        have hR2 : RR W2 w.heap.size s l2 x (pos s r : Nat) := by rw [hW2]; exact hR1.below ((Below.refl _ _).alloc (Nat.le_refl _) _)
        have hB2 : Below w.heap.size w W2 := by rw [hW2]; exact hB1.alloc hB1.size _
        clear hW2 hR1 hB1 c1 hlt hg1
        have c2 := hR2.c2
        have c3 := hR2.c3
        have hlt := hR2.box.lt
        have HB2 := Lib.hid hB2
        clear hR2 hB2 HCL
        go_wp2
        go_quiet (fail)
        go_wp2
        go_ret3
        rw [HL.out.spec, allGo_bad HTK.out HNIL.out HL.out.fuel]
        exact ⟨rfl, belowN HB2.out _⟩
      | ok t r =>
        rw [htk] at hcall
        have HTK := Lib.hid htk
        have hless := tokenR_less htk HNIL.out
        clear htk
        have HCL := Lib.hid hcall
        clear hcall
        go_wp2_with fail
        refine HCL.out.mono ?_
        intro e W1 hO
        obtain ⟨av, ⟨rfl, hR1, hg1⟩, hav⟩ : ∃ av, RGo (.agg (tkV t.kind (bs t.name) av (bs t.text) p li co).toArray) w.heap.size s r 0 0 wr e W1 ∧ Owns wr.heap.size 43 2 atC W1 av t.attrs := hO
        obtain ⟨ao2, cap2, rfl⟩ := hav.shape
        have hsz1 := hg1.size
        have hszw := HL.out.below.size
        have hB1 : Below w.heap.size w W1 := HL.out.below.trans (below_grown hg1 HL.out.below.size)
        have hown1 := HL.out.sl.own.keptR hg1 (by omega)
        have hatt1 : ∀ x ∈ L, Owns (w.heap.size + 1) 43 2 atC W1 x.av x.t.attrs := fun x hx => (HL.out.sl.att x hx).keptR hg1 (by omega)
        have hav1 : Owns (w.heap.size + 1) 43 2 atC W1 (.slice ao2 t.attrs.length cap2) t.attrs := hav.base_mono (by omega)
        unfold tkV
        go_upto_region 7 with fail
        refine wp_world ?_
        intro W2 hW2
        have hR2 : RR W2 w.heap.size s r 0 0 := by rw [hW2]; exact hR1.below ((Below.refl _ _).alloc (Nat.le_refl _) _)
        have hB2 : Below w.heap.size w W2 := by rw [hW2]; exact hB1.alloc hB1.size _
        have hown2 : Owns (w.heap.size + 1) 34 7 tkC W2 (.slice ao L.length cap) L := by rw [hW2]; exact hown1.alloc _
        have hatt2 : ∀ x ∈ L, Owns (w.heap.size + 1) 43 2 atC W2 x.av x.t.attrs := fun x hx => by rw [hW2]; exact (hatt1 x hx).alloc _
        have hav2 : Owns (w.heap.size + 1) 43 2 atC W2 (.slice ao2 t.attrs.length cap2) t.attrs := by rw [hW2]; exact hav1.alloc _
        have hx2 : Box W2 W1.heap.size (tkV t.kind (bs t.name) (.slice ao2 t.attrs.length cap2) (bs t.text) p li co) := by rw [hW2]; exact Box.new W1 _ _ _ rfl
        clear hW2 hR1 hB1 c1 hlt hg1 hown1 hatt1 hav1 hav
        have c2 := hR2.c2
        have hlt := hR2.box.lt
        have hsz2 := hB2.size
        have z0 := hx2.cell 0 _ rfl
        have z1 := hx2.cell 1 _ rfl
        have z2 := hx2.cell 2 _ rfl
        have z3 := hx2.cell 3 _ rfl
        have z4 := hx2.cell 4 _ rfl
        have z5 := hx2.cell 5 _ rfl
        have z6 := hx2.cell 6 _ rfl
        have zl := hx2.lt
        have HR2 := Lib.hid hR2
        have HB2 := Lib.hid hB2
        have HO2 := Lib.hid hown2
        have HA2 := Lib.hid hatt2
        have HV2 := Lib.hid hav2
        clear hR2 hB2 hown2 hatt2 hav2 hx2 HCL
        obtain ⟨x, hx⟩ : ∃ x : TkM, x = ⟨t, .slice ao2 t.attrs.length cap2, p, li, co⟩ := ⟨_, rfl⟩
        have HX := Lib.hid hx
        have HSL : Hid (SliceOf 7 tkC (W2.alloc (.cells #[.int .i64 t.kind, .string (bs t.name), .slice ao2 t.attrs.length cap2, .string (bs t.text), .int .i64 p, .int .i64 li, .int .i64 co] 34)) (.slice (some ⟨W2.heap.size, 0, none⟩) 1 1) [x]) := by
          rw [hx]; exact sliceLit tkC_len W2 [⟨t, .slice ao2 t.attrs.length cap2, p, li, co⟩] _ _ 1 rfl rfl (by simp [maxLen])
        have hone : ∀ u ∈ tkC x, u.oneCell' = true := tkC_one' (by rw [hx])
        have HONE := Lib.hid hone
        clear hx hone
        go_wp2_with (at_builtin; refine wpList_append_slice _ rfl _ _ 23 rfl (w.heap.size + 1) 34 Try.underlying23 info_token rfl (by decide) tkC_len (.slice ao L.length cap) L rfl (HO2.out.alloc _) _ [x] rfl HSL.out (fun y hy => by simp only [List.mem_singleton] at hy; subst hy; exact HONE.out) (by simp; omega) (by decide) (by simp; omega) ?_; intro v8 w8 hown8 hgrow8 hloc8)
        have hb8 := ((Below.refl (w.heap.size + 1) W2).alloc (by omega) (.cells #[.int .i64 t.kind, .string (bs t.name), .slice ao2 t.attrs.length cap2, .string (bs t.text), .int .i64 p, .int .i64 li, .int .i64 co] 34)).grown hgrow8 (by simp; omega) (fun k hk => (HO2.out.lt k hk).1)
        have hnew : RAll w w8 s v8 r (acc ++ [(t, l)]) (f - 1) false (L ++ [x]) := by
          refine ⟨HR2.out.belowB hb8 (by omega), HB2.out.trans (hb8.mono (by omega)), ⟨hown8, fun y hy => ?_, ?_⟩, ?_, ?_, ?_, ?_⟩
          · have h1 : Owns (w.heap.size + 1) 43 2 atC W2 y.av y.t.attrs := by
              rcases List.mem_append.1 hy with h | h
              · exact HA2.out y h
              · simp at h; subst h; rw [HX.out]; exact HV2.out
            exact (h1.alloc _).kept hgrow8 (own_types h1 HO2.out (by decide))
          · rw [List.map_append, List.map_append, HL.out.sl.is, HX.out]
            simp only [List.map_cons, List.map_nil, HP0.out, HLI.out, HCO.out]
          · rw [HL.out.spec, allGo_ok HTK.out HNIL.out HL.out.fuel]
          · have := HL.out.fuel; omega
          · have := HL.out.len; simp; omega
          · have h1 := pos_add HR2.out.suf
            have h2 := pos_add HL.out.rd.suf
            symm; rw [decide_eq_false_iff_not]; omega
        go_wp2
        go_roundw
        case rel => exact ⟨_, _, _, _, _, hnew⟩
        case measure =>
          rw [HL.out.rd.place, hnew.rd.place]
          have := pos_add HL.out.rd.suf
          have := pos_add hnew.rd.suf
          omega

end Go.Proofs.Ytpchljiiappmnaa
