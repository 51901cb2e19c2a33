/- What a text's tokens are, and what Build returns; no walk. -/
import Derived.Test.YtpchljiiappmnaaG11
import Derived.Test.YtpchljiiappmnaaG16
import Derived.Test.YtpchljiiappmnaaG12
import Derived.Test.YtpchljiiappmnaaG19
import Derived.StillTailTactics
namespace Go.Proofs.Ytpchljiiappmnaa
open Go Go.RowKit
variable {lo : Nat}

theorem stepB_bad {st : BSt} {t : Tk} {x : Int} (h : stepB st t = .bad x) : x ≠ 0 := by
  have hb : ∀ {y : Int}, beginB st t = .bad y → y ≠ 0 := fun hy => by rcases beginB_bad hy with rfl | rfl <;> decide
  unfold stepB at h
  split at h
  · unfold lettersB at h
    split at h
    · split at h
      · cases h
      · cases h; decide
    · split at h
      · cases h
      · split at h
        · cases h
        · split at h
          · cases h; decide
          · cases h
  · split at h
    · exact hb h
    · split at h
      · cases hB : beginB st t with
        | bad y => rw [hB] at h; cases h; exact hb hB
        | ok st' =>
          rw [hB, beginB_ok hB] at h
          cases h
      · split at h
        · unfold endB at h
          split at h
          · cases h; decide
          · split at h
            · cases h
            · cases h; decide
        · cases h
theorem tokenR_kinds {first : Bool} {l : Bs} {t : Tk} {r : Bs} (h : tokenR first l = .ok t r) : t.kind = 1 ∨ t.kind = 2 ∨ t.kind = 3 ∨ t.kind = 4 ∨ t.kind = 5 ∨ t.kind = 6 := by
  have hm : ∀ {α : Type} {x : Res α} {f : α → Tk} {k : Int} {t : Tk} {r : Bs}, (∀ a, (f a).kind = k) → x.map f = .ok t r → t.kind = k := by
    intro α x f k t r hf hx
    cases x with
    | ok a r' => simp only [Res.map, Res.ok.injEq] at hx; rw [← hx.1]; exact hf a
    | bad e r' => simp [Res.map] at hx
  unfold tokenR at h
  split at h
  · exact .inr (.inr (.inr (.inr (.inl (hm (fun _ => rfl) h)))))
  · split at h
    · exact .inr (.inr (.inr (.inl (hm (fun _ => rfl) h))))
    · split at h
      · exact .inr (.inr (.inr (.inr (.inr (hm (fun _ => rfl) h)))))
      · split at h
        · exact .inr (.inr (.inl (closeR_kind h)))
        · rcases openR_kind h with e | e
          · exact .inl e
          · exact .inr (.inl e)
        · exact .inr (.inr (.inr (.inl (hm (fun _ => rfl) h))))
theorem tksW_len2 (l : List Tk) : 20 * l.length ≤ tksW l := by
  induction l with
  | nil => simp [tksW]
  | cons t l ih =>
    simp only [tksW, List.map_cons, List.sum_cons, List.length_cons] at ih ⊢
    unfold tkW at *
    omega
theorem toks_small {T : Bs} {acc : List (Tk × Bs)} {r : Bs} (h : allR T = .ok acc r) (hT : T.length ≤ 65536) : acc.length ≤ 100000 ∧ (∀ k (hk : k < acc.length), acc[k].1.text.length ≤ 2000000) ∧ ∀ k (hk : k < acc.length), acc[k].1.kind = 1 ∨ acc[k].1.kind = 2 ∨ acc[k].1.kind = 3 ∨ acc[k].1.kind = 4 ∨ acc[k].1.kind = 5 ∨ acc[k].1.kind = 6 := by
  have h1 := (allR_eat h).2
  have h2 := tksW_len2 (acc.map (·.1))
  rw [List.length_map] at h2
  refine ⟨by omega, fun k hk => ?_, fun k hk => ?_⟩
  · have h3 := tksW_get (l := acc.map (·.1)) (k := k) (by simpa using hk)
    rw [List.getElem_map] at h3
    unfold tkW at h3
    omega
  · obtain ⟨-, first, r', h4⟩ := (allR_facts h).2.2.1 acc[k] (List.getElem_mem hk)
    exact tokenR_kinds h4

def nodeV (t : Tr) (av kv : Value) : Value := .agg #[.string (bs t.name), av, kv, .string (bs t.text)]
def noNode : Value := .agg #[.string ⟨#[]⟩, .slice none 0 0, .slice none 0 0, .string ⟨#[]⟩]
/-- What Build returns. -/
def BuildOut (s : S) (w : World) : Res Tr → Ending → World → Prop
  | .ok t _ => fun e w' => ∃ av kv, e = .returned (.tuple #[nodeV t av kv, .int .i64 0, zeroPlace]) ∧ NodeOf w' t av kv ∧ Below w.heap.size w w'
  | .bad x r => fun e w' => e = .returned (.tuple #[noNode, .int .i64 x, placeV s.data.toList (pos s r)]) ∧ Below w.heap.size w w'

/-- A text's tokens in memory, in blocks ahead of B. -/
def TokAt (lo B : Nat) (w : World) (s : S) (ov : Value) (acc : List (Tk × Bs)) : Prop :=
  (∃ ao cap, ov = .slice ao acc.length cap) ∧ ∀ i t r, acc[i]? = some (t, r) → ∃ g o cap av, ov = .slice (some ⟨g, o, none⟩) acc.length cap ∧ g < B ∧ w.cell? ⟨g, o + i * 7, none⟩ = some (.int .i64 t.kind) ∧ w.cell? ⟨g, o + i * 7 + 1, none⟩ = some (.string (bs t.name)) ∧ w.cell? ⟨g, o + i * 7 + 2, none⟩ = some av ∧ w.cell? ⟨g, o + i * 7 + 3, none⟩ = some (.string (bs t.text)) ∧
    w.cell? ⟨g, o + i * 7 + 4, none⟩ = some (.int .i64 (pos s r : Nat)) ∧ w.cell? ⟨g, o + i * 7 + 5, none⟩ = some (.int .i64 (lineCol (s.data.toList.take (pos s r))).1) ∧ w.cell? ⟨g, o + i * 7 + 6, none⟩ = some (.int .i64 (lineCol (s.data.toList.take (pos s r))).2) ∧ AttB lo B w av t.attrs
theorem TokAt.of {base B : Nat} {w : World} {s : S} {ov : Value} {L : List TkM} {acc : List (Tk × Bs)} (h : TokSl base w s ov L acc) (hl : lo ≤ base) (hB : w.heap.size ≤ B) : TokAt lo B w s ov acc := by
  refine ⟨?_, fun i t r hi => ?_⟩
  · obtain ⟨ao, cap, e⟩ := h.own.shape
    exact ⟨ao, cap, by rw [e, h.len]⟩
  · obtain ⟨g, o, cap, av, e, hg, c0, c1, c2, c3, c4, c5, c6, ha⟩ := h.at hi
    exact ⟨g, o, cap, av, e, by omega, c0, c1, c2, c3, c4, c5, c6, ha.toX atC_len (fun k hk hx => by have := ha.lt k hk; omega)⟩
theorem TokAt.mono {B B' : Nat} {w : World} {s : S} {ov : Value} {acc : List (Tk × Bs)} (h : TokAt lo B w s ov acc) (hB : B ≤ B') : TokAt lo B' w s ov acc := by
  refine ⟨h.1, fun i t r hi => ?_⟩
  obtain ⟨g, o, cap, av, e, hg, c0, c1, c2, c3, c4, c5, c6, ha⟩ := h.2 i t r hi
  exact ⟨g, o, cap, av, e, by omega, c0, c1, c2, c3, c4, c5, c6, SliceX.keep ha (KeptX.refl _ _) (fun k _ hk => hk.imp (fun hk => Nat.le_trans hB hk) id)⟩
theorem TokAt.below {B : Nat} {w w' : World} {s : S} {ov : Value} {acc : List (Tk × Bs)} (h : TokAt lo B w s ov acc) (hb : Below B w w') : TokAt lo B w' s ov acc := by
  refine ⟨h.1, fun i t r hi => ?_⟩
  obtain ⟨g, o, cap, av, e, hg, c0, c1, c2, c3, c4, c5, c6, ha⟩ := h.2 i t r hi
  have hc : ∀ j, w'.cell? ⟨g, j, none⟩ = w.cell? ⟨g, j, none⟩ := fun j => hb.cell (p := ⟨g, j, none⟩) (by exact hg)
  exact ⟨g, o, cap, av, e, hg, (hc _).trans c0, (hc _).trans c1, (hc _).trans c2, (hc _).trans c3, (hc _).trans c4, (hc _).trans c5, (hc _).trans c6, ha.below hb⟩

end Go.Proofs.Ytpchljiiappmnaa

/- The walk of the document's Same on trees; its conditions stand in the theorem. -/
namespace Go.Proofs.Ytpchljiiappmnaa
open Go Go.RowKit

/-- What a comparison returns. -/
def Says (p : Prop) (w : World) (e : Ending) (w' : World) : Prop := ∃ z : Bool, e = .returned (.bool z) ∧ (z = true ↔ p) ∧ Below w.heap.size w w'

theorem tr_eq {a b : Tr} : a = b ↔ a.name = b.name ∧ a.text = b.text ∧ a.attrs = b.attrs ∧ a.kids = b.kids := by
  obtain ⟨n, l, k, x⟩ := a
  obtain ⟨n', l', k', x'⟩ := b
  simp only [Tr.mk.injEq, Tr.name, Tr.text, Tr.attrs, Tr.kids]
  exact ⟨fun ⟨h1, h2, h3, h4⟩ => ⟨h1, h4, h2, h3⟩, fun ⟨h1, h4, h2, h3⟩ => ⟨h1, h2, h3, h4⟩⟩
theorem kid_less {t : Tr} {k : Nat} (h : k < t.kids.length) : SizeOf.sizeOf t.kids[k] < SizeOf.sizeOf t := by
  obtain ⟨n, l, ks, x⟩ := t
  have := List.sizeOf_lt_of_mem (List.getElem_mem (l := ks) h)
  simp only [Tr.mk.sizeOf_spec, Tr.kids] at this ⊢
  omega

/-- A kid's cells. -/
theorem NodeX.kid {X : Nat → Prop} {w : World} {t : Tr} {av kv : Value} (h : NodeX X w t av kv) : ∃ ao cap, kv = .slice ao t.kids.length cap ∧ t.kids.length ≤ maxLen ∧ ∀ k (hk : k < t.kids.length), ∃ g o a b, ao = some ⟨g, o, none⟩ ∧ g < w.heap.size ∧ w.cell? ⟨g, o + k * 4, none⟩ = some (.string (bs t.kids[k].name)) ∧ w.cell? ⟨g, o + k * 4 + 1, none⟩ = some a ∧ w.cell? ⟨g, o + k * 4 + 2, none⟩ = some b ∧ w.cell? ⟨g, o + k * 4 + 3, none⟩ = some (.string (bs t.kids[k].text)) ∧ NodeX X w t.kids[k] a b := by
  obtain ⟨L, his, -, ho, hn⟩ := h.parts
  obtain ⟨ao, cap, h1, h2, h3, h4, h5⟩ := ho
  have hl : L.length = t.kids.length := by rw [← his]; simp
  refine ⟨ao, cap, by rw [h1, hl], by omega, fun k hk => ?_⟩
  have hkL : k < L.length := by omega
  obtain ⟨g, o, e1, e2, -, e3⟩ := h5 k L[k] (List.getElem?_eq_getElem hkL)
  have hkid : t.kids[k] = L[k].1 := by
    have : (L.map (·.1))[k]'(by simpa using hkL) = L[k].1 := by simp
    rw [← this]
    congr 1
    exact his.symm
  refine ⟨g, o, L[k].2.1, L[k].2.2, e1, e2, ?_, e3 1 _ rfl, e3 2 _ rfl, ?_, ?_⟩
  · rw [hkid]; simpa using e3 0 _ rfl
  · rw [hkid]; exact e3 3 _ rfl
  · rw [hkid]; exact hn _ (List.getElem_mem hkL)
theorem NodeX.att {X : Nat → Prop} {w : World} {t : Tr} {av kv : Value} (h : NodeX X w t av kv) : SliceOf 2 atC w av t.attrs := by
  obtain ⟨_, -, h1, -⟩ := h.parts
  exact h1.slice

set_option maxRecDepth 100000 in
set_option maxHeartbeats 8000000 in
theorem refSame_any : ∀ (n : Nat) (a b : Tr) (w : World) (av kv bv lv : Value), SizeOf.sizeOf a ≤ n → NodeOf w a av kv → NodeOf w b bv lv →
    Calls Try.prog 35 #[nodeV a av kv, nodeV b bv lv] w (Says (a = b) w)
  | 0, a, b, w, av, kv, bv, lv, hn, _, _ => by
    obtain ⟨n, l, k, x⟩ := a
    simp only [Tr.mk.sizeOf_spec] at hn
    omega
  | n + 1, a, b, w, av, kv, bv, lv, hn, ha, hb => by
    obtain ⟨ao, ac, hav⟩ := ha.att.shape
    obtain ⟨bo, bc, hbv⟩ := hb.att.shape
    obtain ⟨ko, kc, hkv, hka, hks⟩ := ha.kid
    obtain ⟨lo', lc, hlv, hla, hls⟩ := hb.kid
    subst hav hbv hkv hlv
    unfold maxLen at hka hla
    have HA := Lib.hid ha
    have HB := Lib.hid hb
    have HKS := Lib.hid hks
    have HLS := Lib.hid hls
    have hN := bs_beq2 a.name b.name
    have hT := bs_beq2 a.text b.text
    have HEQ : Hid (a = b ↔ a.name = b.name ∧ a.text = b.text ∧ a.attrs = b.attrs ∧ a.kids = b.kids) := tr_eq
    clear ha hb hks hls
    unfold nodeV
    have hab2 : Below w.heap.size w ((w.alloc (.cells #[.string (bs a.name), .slice ao a.attrs.length ac, .slice ko a.kids.length kc, .string (bs a.text)] 54)).alloc (.cells #[.string (bs b.name), .slice bo b.attrs.length bc, .slice lo' b.kids.length lc, .string (bs b.text)] 54)) := ((Below.refl _ w).alloc (Nat.le_refl _) _).alloc (by simp) _
    have HAB := Lib.hid hab2
    clear hab2
    by_cases h1 : a.name = b.name
    rotate_left
    · rw [decide_eq_false h1] at hN
      have H1 := Lib.hid h1
      clear h1
      go_enter Try.func35, Try.ntmps35
      go_wp2
      go_ret
      exact ⟨false, rfl, by rw [HEQ.out]; exact ⟨fun e => absurd e Bool.false_ne_true, fun e => absurd e.1 H1.out⟩, HAB.out⟩
    rw [decide_eq_true h1] at hN
    have H1 := Lib.hid h1
    clear h1
    by_cases h2 : a.text = b.text
    rotate_left
    · rw [decide_eq_false h2] at hT
      have H2 := Lib.hid h2
      clear h2
      go_enter Try.func35, Try.ntmps35
      go_wp2
      go_ret
      exact ⟨false, rfl, by rw [HEQ.out]; exact ⟨fun e => absurd e Bool.false_ne_true, fun e => absurd e.2.1 H2.out⟩, HAB.out⟩
    rw [decide_eq_true h2] at hT
    have H2 := Lib.hid h2
    clear h2
    have HSA : Hid (∀ W, Below w.heap.size w W → Calls Try.prog 57 #[.slice ao a.attrs.length ac, .slice bo b.attrs.length bc] W (Qt (.bool (decide (a.attrs = b.attrs))) W)) := fun W hW => sameAttrs_any _ _ a.attrs b.attrs W (HA.out.att.below hW) (HB.out.att.below hW)
    go_enter Try.func35, Try.ntmps35
    go_wp2_with fail
    refine (HSA.out _ HAB.out).mono ?_
    rintro e w1 ⟨rfl, q, rfl⟩
    have hWb : Below w.heap.size w (((w.alloc (.cells #[.string (bs a.name), .slice ao a.attrs.length ac, .slice ko a.kids.length kc, .string (bs a.text)] 54)).alloc (.cells #[.string (bs b.name), .slice bo b.attrs.length bc, .slice lo' b.kids.length lc, .string (bs b.text)] 54)).drewN q) := belowN HAB.out q
    have x0 : Box (((w.alloc (.cells #[.string (bs a.name), .slice ao a.attrs.length ac, .slice ko a.kids.length kc, .string (bs a.text)] 54)).alloc (.cells #[.string (bs b.name), .slice bo b.attrs.length bc, .slice lo' b.kids.length lc, .string (bs b.text)] 54)).drewN q) w.heap.size [.string (bs a.name), .slice ao a.attrs.length ac, .slice ko a.kids.length kc, .string (bs a.text)] := ((Box.new w _ _ _ rfl).alloc _).drewN q
    have x1 : Box (((w.alloc (.cells #[.string (bs a.name), .slice ao a.attrs.length ac, .slice ko a.kids.length kc, .string (bs a.text)] 54)).alloc (.cells #[.string (bs b.name), .slice bo b.attrs.length bc, .slice lo' b.kids.length lc, .string (bs b.text)] 54)).drewN q) (w.heap.size + 1) [.string (bs b.name), .slice bo b.attrs.length bc, .slice lo' b.kids.length lc, .string (bs b.text)] := (Box.new _ _ _ _ (by simp)).drewN q
    generalize (((w.alloc (.cells #[.string (bs a.name), .slice ao a.attrs.length ac, .slice ko a.kids.length kc, .string (bs a.text)] 54)).alloc (.cells #[.string (bs b.name), .slice bo b.attrs.length bc, .slice lo' b.kids.length lc, .string (bs b.text)] 54)).drewN q) = W at *
    have HW := Lib.hid hWb
    have HX0 := Lib.hid x0
    have HX1 := Lib.hid x1
    have a2 := x0.cell 2 _ rfl
    have b2 := x1.cell 2 _ rfl
    have al := x0.lt
    have bl := x1.lt
    clear hWb x0 x1 HAB HSA hN hT
    by_cases h3 : a.attrs = b.attrs
    rotate_left
    · have hd : decide (a.attrs = b.attrs) = false := decide_eq_false h3
      have H3 := Lib.hid h3
      clear h3
      rw [hd]
      go_wp2
      go_ret
      exact ⟨false, rfl, by rw [HEQ.out]; exact ⟨fun e => absurd e Bool.false_ne_true, fun e => absurd e.2.2.1 H3.out⟩, HW.out⟩
    have hd : decide (a.attrs = b.attrs) = true := decide_eq_true h3
    have H3 := Lib.hid h3
    clear h3
    rw [hd]
    by_cases h4 : a.kids.length = b.kids.length
    rotate_left
    · have h4I : ((a.kids.length : Int) == (b.kids.length : Int)) = false := beq_eq_false_iff_ne.2 (by omega)
      have h4J : ((a.kids.length : Int) != (b.kids.length : Int)) = true := by rw [bne, h4I]; rfl
      have H4 := Lib.hid h4
      clear h4
      go_wp2
      go_ret
      exact ⟨false, rfl, by rw [HEQ.out]; exact ⟨fun e => absurd e Bool.false_ne_true, fun e => absurd (congrArg List.length e.2.2.2) H4.out⟩, HW.out⟩
    have h4J : ((a.kids.length : Int) != (b.kids.length : Int)) = false := by rw [h4]; simp
    have H4 := Lib.hid h4
    have HI : Hid (∀ k (hk : k < a.kids.length) (hk2 : k < b.kids.length) (W' : World) (v1 v2 v3 v4 : Value), NodeOf W' a.kids[k] v1 v2 → NodeOf W' b.kids[k] v3 v4 → Calls Try.prog 35 #[nodeV a.kids[k] v1 v2, nodeV b.kids[k] v3 v4] W' (Says (a.kids[k] = b.kids[k]) W')) := fun k hk hk2 W' v1 v2 v3 v4 h1 h2 => refSame_any n _ _ W' v1 v2 v3 v4 (by have := kid_less hk; omega) h1 h2
    clear h4 hd hn
    go_wp2
    go_loopw [5, 38] (fun _ i wr => ∃ k : Nat, k ≤ a.kids.length ∧ i = .int .i64 k ∧ Hid (Below W.heap.size W wr ∧ ∀ q (h1 : q < a.kids.length) (h2 : q < b.kids.length), q < k → a.kids[q] = b.kids[q])) (fun _ i _ => a.kids.length - (intOf i).toNat)
    case atStart => exact ⟨0, Nat.zero_le _, rfl, Below.refl _ _, fun q _ _ h => absurd h (Nat.not_lt_zero q)⟩
    case round =>
      obtain ⟨k, hk, rfl, HR⟩ := hrel
      have hbw : Below w.heap.size w wr := HW.out.trans (HR.out.1.mono HW.out.size)
      have HBW := Lib.hid hbw
      have x0 := HX0.out.below HR.out.1 al
      have x1 := HX1.out.below HR.out.1 bl
      clear hbw
      by_cases hlt : k < a.kids.length
      · have hlt2 : k < b.kids.length := by have := H4.out; omega
        obtain ⟨g, o, v1, v2, rfl, hg, c0, c1, c2, c3, hn1⟩ := HKS.out k hlt
        obtain ⟨g2, o2, v3, v4, rfl, hg2, d0, d1, d2, d3, hn2⟩ := HLS.out k hlt2
        have tr : ∀ {g j u}, g < w.heap.size → w.cell? ⟨g, j, none⟩ = some u → wr.cell? ⟨g, j, none⟩ = some u := fun hg h => (HBW.out.cell (by exact hg)).trans h
        have c0' := tr hg c0
        have c1' := tr hg c1
        have c2' := tr hg c2
        have c3' := tr hg c3
        have d0' := tr hg2 d0
        have d1' := tr hg2 d1
        have d2' := tr hg2 d2
        have d3' := tr hg2 d3
        have hgr : g < wr.heap.size := Nat.lt_of_lt_of_le hg HBW.out.size
        have hgr2 : g2 < wr.heap.size := Nat.lt_of_lt_of_le hg2 HBW.out.size
        have hn1' := hn1.keep (KeptX.below (HBW.out)) (fun _ _ h => h)
        have hn2' := hn2.keep (KeptX.below (HBW.out)) (fun _ _ h => h)
        have a2' := x0.cell 2 _ rfl
        have b2' := x1.cell 2 _ rfl
        have al' := x0.lt
        have bl' := x1.lt
        have hki : (k : Int) < (a.kids.length : Int) := by omega
        have hki2 : (k : Int) < (b.kids.length : Int) := by omega
        obtain ⟨_, -, q1, q2, -⟩ := hn1'.parts
        obtain ⟨r1, r2, e1⟩ := q1.shape
        obtain ⟨_, -, q3, q4, -⟩ := hn2'.parts
        obtain ⟨r3, r4, e3⟩ := q3.shape
        obtain ⟨s1, s2, f1⟩ := q2.shape
        obtain ⟨s3, s4, f3⟩ := q4.shape
        generalize List.length _ = m1 at e1
        generalize List.length _ = m3 at e3
        generalize List.length _ = m2 at f1
        generalize List.length _ = m4 at f3
        subst e1 e3 f1 f3
        have HC := Lib.hid (HI.out k hlt hlt2 wr.drew _ _ _ _ (hn1'.later (belowN (Below.refl _ wr) 1)) (hn2'.later (belowN (Below.refl _ wr) 1)))
        unfold nodeV at HC
        clear tr c0 c1 c2 c3 d0 d1 d2 d3 hn1 hn2 hn1' hn2' q1 q2 q3 q4 x0 x1 a2 b2 al bl
        go_wp2
        go_still_tail 10, (by kernel_rfl)
        change wpList _ _ _ _ _ wr.drew
        go_wp2_with fail
        refine HC.out.mono ?_
        rintro e w4 ⟨z, rfl, hz, hb4⟩
        have hbn : Below W.heap.size W w4 := HR.out.1.trans ((belowN (Below.refl _ wr) 1 : Below wr.heap.size wr wr.drew).trans hb4 |>.mono HR.out.1.size)
        have HBN := Lib.hid hbn
        have HZ := Lib.hid hz
        clear hz hb4 hbn HC
        cases z with
        | false =>
          have hne : ¬ a.kids[k] = b.kids[k] := fun e => by have := HZ.out.2 e; cases this
          have HNE := Lib.hid hne
          clear hne
          go_wp2
          go_ret
          refine ⟨false, rfl, ?_, HW.out.trans (HBN.out.mono HW.out.size)⟩
          rw [HEQ.out]
          exact ⟨fun e => absurd e Bool.false_ne_true, fun e => absurd (by have := e.2.2.2; simp only [this]) HNE.out⟩
        | true =>
          have heq := HZ.out.1 rfl
          have HE := Lib.hid heq
          clear heq
          go_wp2
          go_roundw
          case rel => exact ⟨k + 1, hlt, by go_num, HBN.out, fun q h1 h2 h3 => by
            rcases Nat.lt_succ_iff_lt_or_eq.1 h3 with h | rfl
            · exact HR.out.2 q h1 h2 h
            · exact HE.out⟩
          case measure => simp [intOf]; omega
      · obtain rfl : k = a.kids.length := by omega
        go_wp2
        go_ret
        refine ⟨true, rfl, ?_, HBW.out⟩
        rw [HEQ.out]
        exact ⟨fun _ => ⟨H1.out, H2.out, H3.out, List.ext_getElem H4.out fun q h1 h2 => HR.out.2 q h1 h2 h1⟩, fun _ => rfl⟩

end Go.Proofs.Ytpchljiiappmnaa

/- The document's builder: its memory and its small function; the conditions stand in the theorems. -/
namespace Go.Proofs.Ytpchljiiappmnaa
open Go Go.RowKit
variable {lo : Nat}

/-- The document's builder. -/
abbrev RB (w : World) (B : Nat) (lv : Value) (i c bad off : Int) : Prop := Box w B [lv, .int .i64 i, .int .i64 c, .int .i64 bad, .int .i64 off]

set_option maxHeartbeats 4000000 in
theorem refFail_any (w : World) (B : Nat) (lv : Value) (i c o e p : Int) (h : RB w B lv i c 0 o) :
    Calls Try.prog 65 #[.pointer (some ⟨B, 0, none⟩), .int .i64 e, .int .i64 p] w fun en w' => en = .returned (.tuple #[]) ∧ RB w' B lv i c e p ∧ w.grownBy w' (some B) := by
  have c3 := h.cell 3 _ rfl
  have c4 := h.cell 4 _ rfl
  have f3 := h.free 3
  have f4 := h.free 4
  have hl := h.lt
  have H := Lib.hid h
  clear h
  go_enter Try.func65, Try.ntmps65
  go_wp2
  go_end0
  exact ⟨rfl, (H.out.set 3 _).set 4 _, (setCell_grown _ _ _ _).trans (setCell_grown _ _ _ _)⟩

/-- An element that the document's builder is making: its variable, its kids; N: how many blocks there were when it began. -/
structure Mk (lo : Nat) (w : World) (B N nb : Nat) (f : Fr) (L : List TrV) (av kv : Value) : Prop where
  box : Box w nb [.string (bs f.name), av, kv, .string ⟨#[]⟩]
  lt : B < N
  ge : N ≤ nb
  att : AttB lo B w av f.attrs
  own : Owns (nb + 1) 54 4 trC w kv L
  is : L.map (·.1) = f.kids
  nodes : ∀ y ∈ L, NodeX (fun k => ((B ≤ k ∨ k < lo) ∧ k < N) ∨ k = nb ∨ kv.ownBlock = some k) w y.1 y.2.1 y.2.2

/-- Only block B may have turned. -/
theorem Mk.grownB {w w' : World} {B N nb : Nat} {f : Fr} {L : List TrV} {av kv : Value} (h : Mk lo w B N nb f L av kv) (hg : w.grownBy w' (some B)) : Mk lo w' B N nb f L av kv := by
  have hlt := h.lt
  have hge := h.ge
  have hne : ∀ k, B < k → w.heap.size > k → w'.heap[k]? = w.heap[k]? := fun k hk hs => hg.block k hs (by simp; omega)
  have hk : KeptX (fun k => ((B ≤ k ∨ k < lo) ∧ k < N) ∨ k = nb ∨ kv.ownBlock = some k) w w' := KeptX.grown hg (fun g e => by cases e; exact .inl ⟨.inl (Nat.le_refl _), hlt⟩)
  exact ⟨h.box.grownB hg (by omega), h.lt, h.ge, SliceX.keep h.att ⟨hg.size, fun k j hks hn => World.cell?_of_block (by exact hg.block k hks (by simp at hn; simp; omega))⟩ (fun _ _ h => h), h.own.heap fun g hgo => hne g (by have := (h.own.rowOf hgo).1; omega) (h.own.lt g hgo).2, h.is, fun y hy => (h.nodes y hy).keep hk (fun _ _ h => h)⟩
theorem Mk.below {w w' : World} {B N nb : Nat} {f : Fr} {L : List TrV} {av kv : Value} (h : Mk lo w B N nb f L av kv) (hb : Below w.heap.size w w') : Mk lo w' B N nb f L av kv := h.grownB (grownOf hb _)

/-- A node is appended and stored. -/
theorem Mk.push {w w1 : World} {B N nb : Nat} {f : Fr} {L : List TrV} {av kv v' : Value} {y : TrV} (h : Mk lo w B N nb f L av kv) (hy : NodeX (fun k => ((B ≤ k ∨ k < lo) ∧ k < N) ∨ k = nb ∨ kv.ownBlock = some k) w y.1 y.2.1 y.2.2)
    (ho : Owns (nb + 1) 54 4 trC w1 v' (L ++ [y])) (hg : w.grownBy w1 kv.ownBlock) (hv : v'.ownBlock = kv.ownBlock ∨ v'.ownBlock = some w.heap.size) : Mk lo (w1.setCell ⟨nb, 2, none⟩ v') B N nb (f.add y.1) (L ++ [y]) av v' := by
  have hlt := h.lt
  have hge := h.ge
  have hkb : ∀ g, kv.ownBlock = some g → nb < g := fun g hg => (h.own.rowOf hg).1
  have hk2 : KeptX (fun k => ((B ≤ k ∨ k < lo) ∧ k < N) ∨ k = nb ∨ kv.ownBlock = some k) w (w1.setCell ⟨nb, 2, none⟩ v') := (KeptX.grown hg (fun g e => .inr (.inr e))).trans (keptX_set _ nb 2 v' (.inr (.inl rfl)))
  have hY : ∀ k, k < w.heap.size → (((B ≤ k ∨ k < lo) ∧ k < N) ∨ k = nb ∨ v'.ownBlock = some k) → (((B ≤ k ∨ k < lo) ∧ k < N) ∨ k = nb ∨ kv.ownBlock = some k) := by
    intro k hk hx
    rcases hx with hx | hx | hx
    · exact .inl hx
    · exact .inr (.inl hx)
    · rcases hv with e | e
      · exact .inr (.inr (e.symm.trans hx))
      · rw [e] at hx; cases hx; omega
  have hbox : Box w1 nb [.string (bs f.name), av, kv, .string ⟨#[]⟩] := h.box.grown hg (fun e => by have := hkb nb e.symm; omega)
  refine ⟨hbox.set 2 v', h.lt, h.ge, ?_, ho.keptR (setCell_grown _ _ _ _) (by omega), by simp [h.is, Fr.add], fun z hz => ?_⟩
  · refine SliceX.keep h.att ⟨by rw [World.size_setCell]; exact hg.size, fun k j hks hn => ?_⟩ (fun _ _ h => h)
    have hn' : k < B := Nat.lt_of_not_le (fun e => hn (.inl e))
    exact (setCell_far _ _ _ _ (.inl (by omega))).trans (World.cell?_of_block (by exact hg.block k hks (fun e => by have := hkb k e.symm; omega)))
  · rcases List.mem_append.1 hz with hz | hz
    · exact (h.nodes z hz).keep hk2 hY
    · obtain rfl := List.mem_singleton.1 hz
      exact hy.keep hk2 hY

/-- The last kid's text grows. -/
theorem Mk.more {w : World} {B N nb g cap : Nat} {f : Fr} {L : List TrV} {av ya yk : Value} {n x s : Bs} {a : List At2} {k : List Tr} (h : Mk lo w B N nb f (L ++ [((.mk n a k x : Tr), ya, yk)]) av (.slice (some ⟨g, 0, none⟩) (L.length + 1) cap)) :
    Mk lo (w.setCell ⟨g, L.length * 4 + 3, none⟩ (.string (bs (x ++ s)))) B N nb (f.more s) (L ++ [((.mk n a k (x ++ s) : Tr), ya, yk)]) av (.slice (some ⟨g, 0, none⟩) (L.length + 1) cap) := by
  have hlt := h.lt
  have hge := h.ge
  have hbg : nb < g := (h.own.rowOf (g := g) rfl).1
  have hk : KeptX (fun k => ((B ≤ k ∨ k < lo) ∧ k < N) ∨ k = nb ∨ (Value.slice (some ⟨g, 0, none⟩) (L.length + 1) cap).ownBlock = some k) w (w.setCell ⟨g, L.length * 4 + 3, none⟩ (.string (bs (x ++ s)))) := keptX_set w g _ _ (.inr (.inr rfl))
  refine ⟨h.box.grownB (setCell_grown _ _ _ _) (by omega), h.lt, h.ge, SliceX.keep h.att ⟨by simp, fun k j hks hn => setCell_far _ _ _ _ (.inl (by have hn' : k < B := Nat.lt_of_not_le (fun e => hn (.inl e)); omega))⟩ (fun _ _ h => h), ?_, ?_, ?_⟩
  · obtain ⟨g1, e1, -, -, -, -, -, s1⟩ := own_store (j := 3) trC_len h.own (by simp : (L ++ [((.mk n a k x : Tr), ya, yk)])[L.length]? = some ((.mk n a k x : Tr), ya, yk)) (by decide)
    cases e1
    have := s1 (.string (bs (x ++ s))) ((.mk n a k (x ++ s) : Tr), ya, yk) rfl
    rwa [show (L ++ [((.mk n a k x : Tr), ya, yk)]).set L.length ((.mk n a k (x ++ s) : Tr), ya, yk) = L ++ [((.mk n a k (x ++ s) : Tr), ya, yk)] by simp] at this
  · have h1 := h.is
    simp only [List.map_append, List.map_cons, List.map_nil] at h1
    simp only [List.map_append, List.map_cons, List.map_nil, Fr.more, ← h1]
    exact (addText_snoc s _ n a k x).symm
  · intro y hy
    rcases List.mem_append.1 hy with hy | hy
    · exact (h.nodes y (by simp [hy])).keep hk (fun _ _ h => h)
    · obtain rfl := List.mem_singleton.1 hy
      obtain ⟨M, h1, h2, h3, h4⟩ := ((h.nodes _ (by simp : ((.mk n a k x : Tr), ya, yk) ∈ L ++ [((.mk n a k x : Tr), ya, yk)])).keep hk (fun _ _ h => h)).parts
      exact .of M h1 h2 h3 h4

/-- What has been made. -/
theorem Mk.done {w : World} {B N nb : Nat} {f : Fr} {L : List TrV} {av kv : Value} (h : Mk lo w B N nb f L av kv) : NodeX (fun k => (B ≤ k ∨ k < lo) ∧ k < N) w f.tree av kv := by
  have hge := h.ge
  refine .of L h.is (SliceX.keep h.att (KeptX.refl _ _) (fun _ _ h => h.1)) (h.own.toX trC_len fun g hg hx => ?_) (fun y hy => (h.nodes y hy).keep (KeptX.refl _ _) (fun _ _ h => .inl h))
  have := (h.own.rowOf hg).1
  omega

end Go.Proofs.Ytpchljiiappmnaa
