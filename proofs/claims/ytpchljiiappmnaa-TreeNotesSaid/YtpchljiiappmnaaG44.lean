/- A tree's text with notes, and its letters cut in two, is built as that tree; no program in sight. -/
import Derived.Test.YtpchljiiappmnaaG41
import Derived.Test.YtpchljiiappmnaaG37
import Derived.Test.YtpchljiiappmnaaG16
import Derived.Test.YtpchljiiappmnaaG40
namespace Go.Proofs.Ytpchljiiappmnaa
open Go Go.RowKit

def nNote : Bs := [60, 33, 45, 45, 32, 110, 32, 45, 45, 62]
def nMid : Bs := [60, 33, 91, 67, 68, 65, 84, 65, 91, 93, 93, 62, 60, 33, 45, 45, 120, 45, 45, 62]
def nHead : Bs := [60, 63, 120, 109, 108, 32, 118, 101, 114, 115, 105, 111, 110, 61, 34, 49, 46, 48, 34, 63, 62]
def nLess : Bs := [60, 33, 45, 45, 32, 97, 32, 60, 32, 98, 32, 45, 45, 62]
def nEnd : Bs := [60, 33, 45, 45, 45, 45, 62]

mutual
/-- A tree's text with notes. -/
def notedB : Tr → Bs
  | .mk n a ks x => if n.isEmpty then esc false (x.take (x.length / 2)) ++ (nMid ++ esc false (x.drop (x.length / 2))) else tagP ⟨1, n, a, []⟩ [62] ++ (nNote ++ (notedL ks ++ (60 :: 47 :: (n ++ [32, 62]))))
def notedL : List Tr → Bs
  | [] => []
  | t :: l => notedB t ++ notedL l
end

/-- From a state over a text to a state ahead of what is left. -/
def Path (st : BSt) (l : Bs) (st' : BSt) (r : Bs) : Prop :=
  ∃ ts : List (Tk × Bs), ts.length + r.length ≤ l.length ∧ (∀ n acc, allGo (n + ts.length) false acc l = allGo n false (acc ++ ts) r) ∧ ∀ rest, runB st (ts ++ rest) = runB st' rest
theorem Path.refl (st : BSt) (l : Bs) : Path st l st l := ⟨[], by simp, fun n acc => by simp, fun rest => rfl⟩
theorem Path.trans {a b c : BSt} {l m r : Bs} (h : Path a l b m) (h' : Path b m c r) : Path a l c r := by
  obtain ⟨t1, e1, e2, e3⟩ := h
  obtain ⟨t2, f1, f2, f3⟩ := h'
  refine ⟨t1 ++ t2, by rw [List.length_append]; omega, fun n acc => ?_, fun rest => ?_⟩
  · rw [List.length_append, show n + (t1.length + t2.length) = (n + t2.length) + t1.length by omega, e2, f2, List.append_assoc]
  · rw [List.append_assoc, e3, f3]
theorem Path.one {st st' : BSt} {l r : Bs} {t : Tk} (h : tokenR false l = .ok t r) (hl : r.length < l.length) (hs : stepB st t = .ok st') : Path st l st' r := by
  refine ⟨[(t, l)], by simp; omega, fun n acc => ?_, fun rest => ?_⟩
  · exact allGo_step (by intro e; rw [e] at hl; simp at hl) h
  · show runB st ((t, l) :: rest) = _
    simp only [runB, hs]

theorem len_lt (a r : Bs) (h : a ≠ []) : r.length < (a ++ r).length := by
  have := List.length_pos_iff.2 h
  rw [List.length_append]; omega
theorem note_n : ∀ y, plain eNote ([32, 110, 32] ++ eNote ++ y) = .ok [32, 110, 32] y := fun _ => rfl
theorem note_x : ∀ y, plain eNote ([120] ++ eNote ++ y) = .ok [120] y := fun _ => rfl
theorem note_less : ∀ y, plain eNote ([32, 97, 32, 60, 32, 98, 32] ++ eNote ++ y) = .ok [32, 97, 32, 60, 32, 98, 32] y := fun _ => rfl
theorem note_0 : ∀ y, plain eNote ([] ++ eNote ++ y) = .ok [] y := fun _ => rfl
theorem step_5 (st : BSt) (x : Bs) : stepB st ⟨5, [], [], x⟩ = .ok st := by
  unfold stepB
  rw [if_neg (show ¬ (5 : Int) = 4 by decide), if_neg (show ¬ (5 : Int) = 1 by decide), if_neg (show ¬ (5 : Int) = 2 by decide), if_neg (show ¬ (5 : Int) = 3 by decide)]
theorem step_6 (st : BSt) (x : Bs) : stepB st ⟨6, [], [], x⟩ = .ok st := by
  unfold stepB
  rw [if_neg (show ¬ (6 : Int) = 4 by decide), if_neg (show ¬ (6 : Int) = 1 by decide), if_neg (show ¬ (6 : Int) = 2 by decide), if_neg (show ¬ (6 : Int) = 3 by decide)]
theorem tokP_5 (x : Bs) : tokP ⟨5, [], [], x⟩ = sNote ++ (x ++ eNote) := by unfold tokP; rw [if_pos rfl]
theorem path_note {x : Bs} (h : ∀ y, plain eNote (x ++ eNote ++ y) = .ok x y) (st : BSt) (y : Bs) : Path st ((sNote ++ (x ++ eNote)) ++ y) st y := by
  have h1 := ((GoodT.no false x h).again (show (5 : Int) ≠ 4 by decide) y).1
  rw [tokP_5] at h1
  exact .one h1 (by simp [sNote]; omega) (step_5 st x)
theorem data_0 (y : Bs) : tokenR false ((sData ++ eData) ++ y) = .ok ⟨4, [], [], []⟩ y := rfl
theorem step_empty (st : BSt) : stepB st ⟨4, [], [], []⟩ = .ok st := by
  unfold stepB
  rw [if_pos rfl]
  unfold lettersB
  split <;> rfl
theorem path_mid (st : BSt) (y : Bs) : Path st (nMid ++ y) st y := by
  have h1 : Path st ((sData ++ eData) ++ ((sNote ++ ([120] ++ eNote)) ++ y)) st ((sNote ++ ([120] ++ eNote)) ++ y) := .one (data_0 _) (by simp [sData, eData]; omega) (step_empty st)
  exact h1.trans (path_note note_x st y)

theorem addText_last (s : Bs) (n : Bs) (a : List At2) (k : List Tr) (x : Bs) : ∀ l : List Tr, addText s (l ++ [.mk n a k x]) = l ++ [.mk n a k (x ++ s)]
  | [] => rfl
  | [t] => by cases t; rfl
  | t :: u :: l => by
    cases t
    show _ :: addText s (u :: (l ++ [.mk n a k x])) = _
    have := addText_last s n a k x (u :: l)
    rw [List.cons_append] at this
    rw [this]; rfl

theorem noted_head {t : Tr} (h : t.name ≠ []) : ∃ r, notedB t = 60 :: r := by
  obtain ⟨n, a, ks, x⟩ := t
  have h' : n ≠ [] := h
  rw [notedB, if_neg (by simpa using h')]
  exact ⟨_, rfl⟩
theorem esc_len_pos {x : Bs} (h : x ≠ []) : 0 < (esc false x).length := List.length_pos_iff.2 (esc_ne false h)
theorem path_text {st st' : BSt} {x y : Bs} (h : ∀ c ∈ x, cText c = true) (hne : x ≠ []) (hy : ∃ r, y = 60 :: r) (hs : stepB st ⟨4, [], [], x⟩ = .ok st') : Path st (esc false x ++ y) st' y :=
  .one (text_again h hne (.inr hy)) (by rw [List.length_append]; have := esc_len_pos hne; omega) hs

mutual
theorem path_t : ∀ (t : Tr), RightT t → ∀ (st : BSt), st.root = none → st.stack.length + t.dep ≤ 64 → st.count + t.cnt ≤ 4096 → ∀ y, Path st (notedB t ++ y) (closeB (frOf t) st.stack none (st.count + t.cnt)) y
  | .mk n a ks x, h, st, hr, hd, hc, y => by
    have hL := h.kidsL
    have hname := h
    cases hname with
    | mk hn hx ha hk hl hs =>
      obtain ⟨g1, g2⟩ := okName_good hn
      obtain ⟨g3, g4⟩ := goodAtts_a ha
      have hne : ¬ n.isEmpty = true := by simpa using g2
      rw [Tr.dep] at hd
      rw [Tr.cnt] at hc
      rw [notedB, if_neg hne]
      have e1 : (tagP ⟨1, n, a, []⟩ [62] ++ (nNote ++ (notedL ks ++ (60 :: 47 :: (n ++ [32, 62]))))) ++ y = tagP ⟨1, n, a, []⟩ [62] ++ ((sNote ++ ([32, 110, 32] ++ eNote)) ++ (notedL ks ++ (60 :: 47 :: (n ++ 32 :: 62 :: y)))) := by
        simp [nNote, sNote, eNote]
      rw [e1]
      have hb : stepB st ⟨1, n, a, []⟩ = .ok ⟨⟨n, a, []⟩ :: st.stack, none, st.count + 1, false⟩ := by
        unfold stepB
        rw [if_neg (show ¬ (1 : Int) = 4 by decide), if_pos rfl]
        unfold beginB
        rw [hr, if_neg (by simp), if_neg (by omega), if_neg (by omega)]
      have hT : tokP ⟨1, n, a, []⟩ = tagP ⟨1, n, a, []⟩ [62] := by unfold tokP; rw [if_neg (by simp), if_neg (by simp), if_neg (by simp), if_pos rfl]
      have hopen := fun z => ((GoodT.op false 1 (.inl rfl) n a g1 g2 g3 g4).again (show (1 : Int) ≠ 4 by decide) z).1
      rw [hT] at hopen
      refine (Path.one (hopen _) (len_lt _ _ (by simp [tagP])) hb).trans ?_
      refine (path_note note_n _ _).trans ?_
      obtain ⟨tx', hp⟩ := path_l ks hL ⟨n, a, []⟩ st.stack (st.count + 1) false (fun h => by cases h) (by omega) (by omega) (60 :: 47 :: (n ++ 32 :: 62 :: y)) ⟨_, rfl⟩
      refine hp.trans ?_
      have hcl : tokenR false (60 :: 47 :: (n ++ 32 :: 62 :: y)) = .ok ⟨3, n, [], []⟩ y := by
        rw [tokS_47]
        unfold closeR
        rw [nameR_all g1 g2 (by decide)]
        simp only [Res.bind]
        rw [show blanks (32 :: 62 :: y) = 62 :: y by simp [blanks, cBlank]]
        rfl
      have he3 : stepB ⟨⟨n, a, [] ++ ks⟩ :: st.stack, none, st.count + 1 + Tr.cntL ks, tx'⟩ ⟨3, n, [], []⟩ = .ok (closeB ⟨n, a, [] ++ ks⟩ st.stack none (st.count + 1 + Tr.cntL ks)) := by
        unfold stepB
        rw [if_neg (show ¬ (3 : Int) = 4 by decide), if_neg (show ¬ (3 : Int) = 1 by decide), if_neg (show ¬ (3 : Int) = 2 by decide), if_pos rfl]
        unfold endB
        exact if_pos rfl
      have := Path.one hcl (by simp; omega) he3
      rw [Tr.cnt, show st.count + (1 + Tr.cntL ks) = st.count + 1 + Tr.cntL ks by omega]
      exact this
theorem path_l : ∀ (ks : List Tr), RightL ks → ∀ (F : Fr) (S : List Fr) (c : Nat) (tx : Bool), (tx = true → ∀ u r, ks = u :: r → u.name ≠ []) → S.length + 1 + Tr.depL ks ≤ 64 → c + Tr.cntL ks ≤ 4096 → ∀ y, (∃ r, y = 60 :: r) →
    ∃ tx' : Bool, Path ⟨F :: S, none, c, tx⟩ (notedL ks ++ y) ⟨⟨F.name, F.attrs, F.kids ++ ks⟩ :: S, none, c + Tr.cntL ks, tx'⟩ y
  | [], _, F, S, c, tx, _, _, _, y, _ => by
    refine ⟨tx, ?_⟩
    rw [notedL, List.append_nil, Tr.cntL]
    exact Path.refl _ _
  | k :: l, h, F, S, c, tx, htx, hd, hc, y, hy => by
    obtain ⟨h1, h2, h3⟩ := h
    rw [Tr.depL] at hd
    rw [Tr.cntL] at hc
    rw [notedL, List.append_assoc]
    by_cases hn : k.name = []
    · obtain ⟨⟨e1, e2, e3, e4⟩, h5⟩ := h2 hn
      obtain ⟨kn, ka, kk, kx⟩ := k
      simp only [Tr.name, Tr.attrs, Tr.kids, Tr.text] at hn e1 e2 e3 e4
      subst hn e1 e2
      have hcn : (Tr.mk [] [] [] kx).cnt = 1 := by rw [Tr.cnt, Tr.cntL]
      rw [hcn] at hc
      have htf : tx = false := by
        cases tx with
        | false => rfl
        | true => exact absurd rfl (htx rfl _ _ rfl)
      subst htf
      obtain ⟨tx', hx'⟩ := path_l l h3 (F.add (.mk [] [] [] kx)) S (c + 1) true (fun _ u r e => h5 u r e) (by omega) (by omega) y hy
      refine ⟨tx', ?_⟩
      have hz : ∃ r, notedL l ++ y = 60 :: r := by
        cases l with
        | nil => rw [notedL, List.nil_append]; exact hy
        | cons u r =>
          obtain ⟨q, hq⟩ := noted_head (h5 u r rfl)
          rw [notedL, hq]; exact ⟨_, rfl⟩
      rw [Tr.cntL, hcn, show c + (1 + Tr.cntL l) = c + 1 + Tr.cntL l by omega]
      have hgo : Path ⟨F :: S, none, c, false⟩ (notedB (.mk [] [] [] kx) ++ (notedL l ++ y)) ⟨F.add (.mk [] [] [] kx) :: S, none, c + 1, true⟩ (notedL l ++ y) := by
        rw [notedB, if_pos (show ([] : Bs).isEmpty = true from rfl), List.append_assoc, List.append_assoc]
        have ht : ∀ c ∈ kx, cText c = true := fun c hc => List.all_eq_true.1 e4 c hc
        have hd2 : kx.drop (kx.length / 2) ≠ [] := by
          intro e
          have := congrArg List.length e
          have : 0 < kx.length := List.length_pos_iff.2 e3
          simp at *
          omega
        have hadd : ∀ z : Bs, z ≠ [] → stepB ⟨F :: S, none, c, false⟩ ⟨4, [], [], z⟩ = .ok ⟨F.add (.mk [] [] [] z) :: S, none, c + 1, true⟩ := fun z hz => by
          have hxe : z.isEmpty = false := by simpa using hz
          unfold stepB
          rw [if_pos rfl]
          simp only [lettersB, hxe]
          rw [if_neg (by simp), if_neg (by simp), if_neg (by omega)]
        by_cases h0 : kx.take (kx.length / 2) = []
        · have hdr : kx.drop (kx.length / 2) = kx := by
            have := List.take_append_drop (kx.length / 2) kx
            rwa [h0, List.nil_append] at this
          rw [h0, hdr]
          exact (path_mid _ _).trans (path_text ht e3 hz (hadd kx e3))
        · refine (path_text (fun c hc => ht c (List.mem_of_mem_take hc)) h0 ⟨_, rfl⟩ (hadd _ h0)).trans ?_
          refine (path_mid _ _).trans (path_text (fun c hc => ht c (List.mem_of_mem_drop hc)) hd2 hz ?_)
          have hxe : (kx.drop (kx.length / 2)).isEmpty = false := by simpa using hd2
          unfold stepB
          rw [if_pos rfl]
          simp only [lettersB, hxe]
          rw [if_neg (by simp), if_pos trivial]
          unfold Fr.more Fr.add
          simp only
          rw [addText_last, List.take_append_drop]
      refine hgo.trans ?_
      have : (⟨F.name, F.attrs, F.kids ++ Tr.mk [] [] [] kx :: l⟩ : Fr) = ⟨(F.add (.mk [] [] [] kx)).name, (F.add (.mk [] [] [] kx)).attrs, (F.add (.mk [] [] [] kx)).kids ++ l⟩ := by simp [Fr.add]
      rw [this]
      exact hx'
    · have hr := h1 hn
      rw [if_neg hn] at hd
      have hrt : k.text = [] := by cases hr; assumption
      have ht := path_t k hr ⟨F :: S, none, c, tx⟩ rfl (by show S.length + 1 + k.dep ≤ 64; omega) (by show c + k.cnt ≤ 4096; omega) (notedL l ++ y)
      obtain ⟨tx', hx'⟩ := path_l l h3 (F.add k) S (c + k.cnt) false (fun h => by cases h) (by omega) (by omega) y hy
      refine ⟨tx', ht.trans ?_⟩
      have hcl : closeB (frOf k) (F :: S) none (c + k.cnt) = ⟨F.add k :: S, none, c + k.cnt, false⟩ := by
        unfold closeB
        rw [frOf_tree hrt]
      show Path (closeB (frOf k) (F :: S) none (c + k.cnt)) _ _ _
      rw [hcl, Tr.cntL, show c + (k.cnt + Tr.cntL l) = c + k.cnt + Tr.cntL l by omega]
      have : (⟨F.name, F.attrs, F.kids ++ k :: l⟩ : Fr) = ⟨(F.add k).name, (F.add k).attrs, (F.add k).kids ++ l⟩ := by simp [Fr.add]
      rw [this]
      exact hx'
end

theorem reads_blanks : ∀ (p : Bs), (∀ c ∈ p, cBlank c = true) → Reads 60 p p
  | [], _ => .nil 60
  | c :: p, h => by
    have h1 : cBlank c = true := h c (List.mem_cons_self ..)
    have h2 : c ≠ 60 ∧ c ≠ 38 ∧ cText c = true := by
      have h2 : ∀ n : Fin 256, cBlank (UInt8.ofNat n) = true → UInt8.ofNat n ≠ 60 ∧ UInt8.ofNat n ≠ 38 ∧ cText (UInt8.ofNat n) = true := by decide +kernel
      have := h2 ⟨c.toNat, c.toNat_lt⟩
      simp only [UInt8.ofNat_toNat] at this
      exact this h1
    exact (reads_one h2.1 h2.2.1 h2.1 h2.2.2).append (reads_blanks p fun x hx => h x (List.mem_cons_of_mem _ hx))
theorem drop_blanks : ∀ (p : Bs), (∀ c ∈ p, cBlank c = true) → p.dropWhile cBlank = []
  | [], _ => rfl
  | c :: p, h => by
    rw [List.dropWhile_cons_of_pos (h c (List.mem_cons_self ..))]
    exact drop_blanks p fun x hx => h x (List.mem_cons_of_mem _ hx)
theorem path_pad {p : Bs} (h : ∀ c ∈ p, cBlank c = true) (st : BSt) (hs : st.stack = []) (y : Bs) (hy : ∃ r, y = 60 :: r) : Path st (p ++ y) st y := by
  by_cases hp : p = []
  · subst hp; exact .refl _ _
  obtain ⟨r, rfl⟩ := hy
  have h1 : tokenR false (p ++ 60 :: r) = .ok ⟨4, [], [], p⟩ (60 :: r) := by
    rw [tokenR_text false, letters_reads (reads_blanks p h) r]; rfl
    cases p with
    | nil => exact absurd rfl hp
    | cons c p =>
      intro e
      simp at e
      subst e
      exact absurd (h 60 (List.mem_cons_self ..)) (by decide)
  refine .one h1 (by rw [List.length_append]; have := List.length_pos_iff.2 hp; omega) ?_
  unfold stepB
  rw [if_pos rfl]
  unfold lettersB
  rw [hs]
  simp only [trimB, drop_blanks p h]
  rfl

/-- The text of the law. -/
def notesT (t : Tr) (p : Bs) : Bs := nHead ++ (p ++ (nLess ++ (p ++ (notedB t ++ (p ++ nEnd)))))
/-- The law of TreeNotes. -/
theorem tree_notes {t : Tr} {p : Bs} (h : MayT t) (hp : ∀ c ∈ p, cBlank c = true) : buildR (notesT t p) = .ok t [] := by
  obtain ⟨h1, h2, h3⟩ := h
  have hrt : t.text = [] := by cases h1; assumption
  have hnm : t.name ≠ [] := by
    cases h1 with
    | mk hn _ _ _ _ _ => exact (okName_good hn).2
  obtain ⟨q, hq⟩ := noted_head hnm
  have e0 : (closeB (frOf t) [] none (0 + t.cnt)) = ⟨[], some t, 0 + t.cnt, false⟩ := by unfold closeB; rw [frOf_tree hrt]
  have p1 := path_pad hp st0 rfl (nLess ++ (p ++ (notedB t ++ (p ++ nEnd)))) ⟨_, rfl⟩
  have p2 := path_note note_less st0 (p ++ (notedB t ++ (p ++ nEnd)))
  have p3 := path_pad hp st0 rfl (notedB t ++ (p ++ nEnd)) ⟨_, by rw [hq]; rfl⟩
  have p4 := path_t t h1 st0 rfl (by show 0 + t.dep ≤ 64; omega) (by show 0 + t.cnt ≤ 4096; omega) (p ++ nEnd)
  have e1 : (closeB (frOf t) st0.stack none (st0.count + t.cnt)) = ⟨[], some t, 0 + t.cnt, false⟩ := e0
  rw [e1] at p4
  have p5 := path_pad hp ⟨[], some t, 0 + t.cnt, false⟩ rfl nEnd ⟨_, rfl⟩
  have p6 : Path ⟨[], some t, 0 + t.cnt, false⟩ nEnd ⟨[], some t, 0 + t.cnt, false⟩ [] := path_note note_0 _ []
  obtain ⟨ts, f1, f2, f3⟩ := p1.trans (p2.trans (p3.trans (p4.trans (p5.trans p6))))
  have h0 : tokenR true (notesT t p) = .ok ⟨6, [], [], [32, 118, 101, 114, 115, 105, 111, 110, 61, 34, 49, 46, 48, 34]⟩ (p ++ (nLess ++ (p ++ (notedB t ++ (p ++ nEnd))))) := rfl
  have hall : allR (notesT t p) = .ok (([(⟨6, [], [], [32, 118, 101, 114, 115, 105, 111, 110, 61, 34, 49, 46, 48, 34]⟩, notesT t p)] : List (Tk × Bs)) ++ ts) [] := by
    unfold allR
    have hl : (notesT t p).length = 20 + (p ++ (nLess ++ (p ++ (notedB t ++ (p ++ nEnd))))).length + 1 := by
      show (nHead ++ _).length = _
      rw [List.length_append]
      show 21 + _ = _
      omega
    rw [hl, allGo_step (by intro e; rw [e] at hl; simp at hl) h0]
    obtain ⟨m, hm⟩ : ∃ m, 20 + (p ++ (nLess ++ (p ++ (notedB t ++ (p ++ nEnd))))).length = m + ts.length := ⟨20 + (p ++ (nLess ++ (p ++ (notedB t ++ (p ++ nEnd))))).length - ts.length, by omega⟩
    rw [hm, f2, allGo_nil, List.nil_append]
  unfold buildR
  rw [hall]
  show runB st0 ((_, _) :: ts) = _
  simp only [runB, step_6]
  have := f3 []
  rw [List.append_nil] at this
  rw [this]
  rfl

end Go.Proofs.Ytpchljiiappmnaa

/- The walk of noted; its conditions stand in the theorem. -/
namespace Go.Proofs.Ytpchljiiappmnaa
open Go Go.RowKit

mutual
theorem noted_len : ∀ t : Tr, (notedB t).length ≤ 6 * t.wt
  | .mk n a ks x => by
    have h1 := (esc_len false (x.take (x.length / 2))).2
    have h2 := (esc_len false (x.drop (x.length / 2))).2
    have h3 := notedL_len ks
    have h4 := tagT_len 1 n a [62]
    rw [notedB, Tr.wt]
    split
    · simp only [List.length_append, List.length_take, List.length_drop, nMid, List.length_cons, List.length_nil] at *; omega
    · simp only [List.length_append, nNote, List.length_cons, List.length_nil] at *; omega
theorem notedL_len : ∀ l : List Tr, (notedL l).length ≤ 6 * Tr.wtL l
  | [] => by simp [notedL]
  | t :: l => by
    have h1 := noted_len t
    have h2 := notedL_len l
    rw [notedL, Tr.wtL, List.length_append]; omega
end
theorem notedL_take {l : List Tr} {k : Nat} (h : k < l.length) : notedL (l.take (k + 1)) = notedL (l.take k) ++ notedB l[k] := by
  induction l generalizing k with
  | nil => simp at h
  | cons t l ih =>
    cases k with
    | zero => simp [notedL]
    | succ k => simp only [List.take_succ_cons, notedL, List.getElem_cons_succ, List.append_assoc]; rw [ih (by simpa using h)]
theorem noted_eq (t : Tr) : notedB t = if t.name.isEmpty then esc false (t.text.take (t.text.length / 2)) ++ (nMid ++ esc false (t.text.drop (t.text.length / 2))) else tagP ⟨1, t.name, t.attrs, []⟩ [62] ++ (nNote ++ (notedL t.kids ++ (60 :: 47 :: (t.name ++ [32, 62])))) := by
  cases t; rw [notedB]; rfl
theorem node_bare {w : World} {t : Tr} {av kv : Value} (h : NodeOf w t av kv) : NodeOf w (.mk t.name t.attrs [] []) av (.slice none 0 0) := by
  refine .mk [] h.attX rfl ?_ (by simp)
  exact ⟨none, 0, rfl, by simp, by simp [maxLen], by simp, fun i x hx => by simp at hx⟩
theorem cut_tag (n : Bs) (a : List At2) : (bs (tagP ⟨2, n, a, []⟩ [47, 62])).extract 0 ((bs (tagP ⟨2, n, a, []⟩ [47, 62])).size - 2) ++ (⟨#[62, 60, 33, 45, 45, 32, 110, 32, 45, 45, 62]⟩ : S) = bs (tagP ⟨1, n, a, []⟩ [62] ++ nNote) := by
  rw [bs_extract, bs_size, show (⟨#[62, 60, 33, 45, 45, 32, 110, 32, 45, 45, 62]⟩ : S) = bs [62, 60, 33, 45, 45, 32, 110, 32, 45, 45, 62] from rfl, bs_append]
  congr 1
  have h : tagP ⟨2, n, a, []⟩ [47, 62] = (60 :: (n ++ attsP a)) ++ [47, 62] := by simp [tagP]
  rw [h, List.drop_zero, List.length_append, show (60 :: (n ++ attsP a)).length + ([47, 62] : Bs).length - 2 - 0 = (60 :: (n ++ attsP a)).length from rfl, List.take_left]
  simp [tagP, nNote]

set_option maxRecDepth 100000 in
set_option maxHeartbeats 16000000 in
theorem noted_go : ∀ (n : Nat) (t : Tr) (w : World) (av kv : Value), SizeOf.sizeOf t ≤ n → NodeOf w t av kv → t.wt ≤ 900000000 →
    Calls Try.prog 39 #[nodeV t av kv] w fun e w' => e = .returned (.string (bs (notedB t))) ∧ Below w.heap.size w w'
  | 0, t, w, av, kv, hn, _, _ => by
    obtain ⟨n, l, k, x⟩ := t
    simp only [Tr.mk.sizeOf_spec] at hn
    omega
  | n + 1, t, w, av, kv, hn, ht, hw => by
    obtain ⟨ao, ac, ko, kc, rfl, rfl, hal, hkl⟩ := ht.shape
    have hwt := t.wt_eq
    have HI : Hid (∀ k (hk : k < t.kids.length) (W' : World) (v1 v2 : Value), NodeOf W' t.kids[k] v1 v2 → Calls Try.prog 39 #[nodeV t.kids[k] v1 v2] W' fun e w' => e = .returned (.string (bs (notedB t.kids[k]))) ∧ Below W'.heap.size W' w') := fun k hk W' v1 v2 h1 => noted_go n _ W' v1 v2 (by have := kid_less hk; omega) h1 (by have := wtL_take t.kids k hk; omega)
    have hPR := noted_eq t
    obtain ⟨N, hN⟩ : ∃ N : S, bs t.name = N := ⟨_, rfl⟩
    obtain ⟨X, hX⟩ : ∃ X : S, bs t.text = X := ⟨_, rfl⟩
    have hNs : N.size = t.name.length := by rw [← hN, bs_size]
    have hNb : N.size ≤ 900000000 := by omega
    have hXs : X.size ≤ 1000000000 := by rw [← hX, bs_size]; omega
    have hXl : X.size = t.text.length := by rw [← hX, bs_size]
    have HT := Lib.hid ht
    have HWT : Hid (t.wt ≤ 900000000 ∧ t.wt = (2 * t.name.length + t.text.length + attsW t.attrs + 30) + Tr.wtL t.kids) := ⟨hw, hwt⟩
    have HNN := Lib.hid hN
    clear hn ht hw hwt
    unfold nodeV
    rw [hN, hX]
    by_cases hne : t.name = []
    · have he : N.toList.isEmpty = true := by rw [empty_data, hNs, hne]; rfl
      have HPR : Hid (notedB t = esc false (t.text.take (t.text.length / 2)) ++ (nMid ++ esc false (t.text.drop (t.text.length / 2)))) := by show _ = _; rw [hPR, hne]; rfl
      obtain ⟨k, hk⟩ : ∃ k, k = X.size / 2 := ⟨_, rfl⟩
      obtain ⟨Y1, hY1⟩ : ∃ Y1 : S, Y1 = bs (esc false (t.text.take (t.text.length / 2))) := ⟨_, rfl⟩
      obtain ⟨Y2, hY2⟩ : ∃ Y2 : S, Y2 = bs (esc false (t.text.drop (t.text.length / 2))) := ⟨_, rfl⟩
      have HE1 : Hid (∀ w : World, Calls Try.prog 27 #[.string (X.extract 0 k), .bool false] w fun e w'' => e = .returned (.string Y1) ∧ w = w'') := fun w => by
        have h := refEscape_any (X.extract 0 k) false w (by rw [← hX, bs_extract, bs_size]; simp; omega)
        rw [← hX, bs_extract, bs_data, List.drop_zero, Nat.sub_zero, hk, hXl, ← hY1] at h
        rw [← hX, bs_extract, List.drop_zero, Nat.sub_zero, hk, hXl]
        exact h
      have HE2 : Hid (∀ w : World, Calls Try.prog 27 #[.string (X.extract k X.size), .bool false] w fun e w'' => e = .returned (.string Y2) ∧ w = w'') := fun w => by
        have hx2 : X.extract k X.size = bs (t.text.drop (t.text.length / 2)) := by
          rw [hXl, ← hX, bs_extract, hk, hXl, List.take_of_length_le (by simp)]
        have h := refEscape_any (bs (t.text.drop (t.text.length / 2))) false w (by rw [bs_size]; simp; omega)
        rw [bs_data, ← hY2] at h
        rw [hx2]
        exact h
      have hs1 : Y1.size ≤ 6000000000 := by
        have := (esc_len false (t.text.take (t.text.length / 2))).2
        rw [hY1, bs_size]; simp at this; omega
      have hs2 : Y2.size ≤ 6000000000 := by
        have := (esc_len false (t.text.drop (t.text.length / 2))).2
        rw [hY2, bs_size]; simp at this; omega
      have HF : Hid (Y1 ++ (⟨#[60, 33, 91, 67, 68, 65, 84, 65, 91, 93, 93, 62, 60, 33, 45, 45, 120, 45, 45, 62]⟩ : S) ++ Y2 = bs (notedB t)) := by
        show _ = _
        rw [HPR.out, hY1, hY2, show (⟨#[60, 33, 91, 67, 68, 65, 84, 65, 91, 93, 93, 62, 60, 33, 45, 45, 120, 45, 45, 62]⟩ : S) = bs nMid from rfl, bs_append, bs_append, List.append_assoc]
      have hkk : (X.size : Int) / 2 = (k : Int) := by omega
      have hk1 : (k : Int) ≤ (X.size : Int) := by omega
      have hk2 : k ≤ X.size := by omega
      have f1 : ¬ 9223372036854775807 < Y1.size + 20 := by omega
      have f2 : ¬ 9223372036854775807 < Y1.size + 20 + Y2.size := by omega
      have HK := Lib.hid hk
      clear hne hPR hN hX hNs hY1 hY2 hXl hk
      go_enter Try.func39, Try.ntmps39
      go_wp2_with fail
      refine wp_world ?_
      intro W hW
      have hbx : Box W w.heap.size [.string N, .slice ao t.attrs.length ac, .slice ko t.kids.length kc, .string X] := by rw [hW]; exact Box.new w _ _ _ rfl
      have hBW : Below w.heap.size w W := by rw [hW]; exact (Below.refl _ w).alloc (Nat.le_refl _) _
      clear hW
      have y3 := hbx.cell 3 _ rfl
      have ly := hbx.lt
      have HBW := Lib.hid hBW
      have HC1 : Hid (∀ i, Calls Try.prog 27 #[.string (X.extract 0 k), .bool false] (W.drewN i) fun e w'' => e = .returned (.string Y1) ∧ ∃ q, w'' = W.drewN q) := fun i => quietS (HE1.out _)
      have HC2 : Hid (∀ i, Calls Try.prog 27 #[.string (X.extract k X.size), .bool false] (W.drewN i) fun e w'' => e = .returned (.string Y2) ∧ ∃ q, w'' = W.drewN q) := fun i => quietS (HE2.out _)
      clear hbx hBW HE1 HE2
      go_quiet ((go_at_call 27; first | with_reducible exact HC1.out _ | with_reducible exact HC2.out _))
      go_wp2
      go_ret
      exact ⟨by rw [← HF.out]; rfl, belowN HBW.out _⟩
    · have he : N.toList.isEmpty = false := by rw [empty_data, hNs]; simpa using hne
      have hE : t.name.isEmpty = false := by simpa using hne
      have HPR : Hid (notedB t = tagP ⟨1, t.name, t.attrs, []⟩ [62] ++ (nNote ++ (notedL t.kids ++ (60 :: 47 :: (t.name ++ [32, 62]))))) := by show _ = _; rw [hPR, hE]; rfl
      obtain ⟨Z, hZ⟩ : ∃ Z : S, Z = bs (tagP ⟨2, t.name, t.attrs, []⟩ [47, 62]) := ⟨_, rfl⟩
      have HPC : Hid (∀ V, Below w.heap.size w V → Calls Try.prog 49 #[.agg #[.string N, .slice ao t.attrs.length ac, .slice none 0 0, .string ⟨#[]⟩]] V fun e w' => e = .returned (.string Z) ∧ Below V.heap.size V w') := fun V h => by
        have h1 := refPr_any (.mk t.name t.attrs [] []) V _ _ (node_bare (HT.out.later h)) (by have := HWT.out; rw [Tr.wt, Tr.wtL, List.length_nil]; omega)
        rw [show (Tr.mk t.name t.attrs [] []).pr = tagP ⟨2, t.name, t.attrs, []⟩ [47, 62] by rw [Tr.pr, if_neg (by rw [hE]; decide), if_pos (show ([] : List Tr).isEmpty = true from rfl)], ← hZ] at h1
        rw [← hN]
        exact h1
      obtain ⟨m, hm⟩ : ∃ m, Z.size = m + 2 := ⟨Z.size - 2, by rw [hZ, bs_size]; simp [tagP]; omega⟩
      have hZs : Z.size ≤ 1000000000 := by
        rw [hZ, bs_size]
        have h1 := tagT_len 2 t.name t.attrs [47, 62]
        have h4 := HWT.out
        simp only [List.length_cons, List.length_nil] at h1
        omega
      have HZC : Hid (Z.extract 0 m ++ (⟨#[62, 60, 33, 45, 45, 32, 110, 32, 45, 45, 62]⟩ : S) = bs (tagP ⟨1, t.name, t.attrs, []⟩ [62] ++ nNote ++ notedL (t.kids.take 0))) := by
        show _ = _
        have h1 := cut_tag t.name t.attrs
        rw [← hZ, hm, Nat.add_sub_cancel] at h1
        rw [h1]; simp [notedL]
      have hm1 : (Z.size : Int) - 2 = (m : Int) := by omega
      have hm2 : (m : Int) ≤ (Z.size : Int) := by omega
      have hm3 : m ≤ Z.size := by omega
      have hmb : m ≤ 1000000000 := by omega
      clear hne hPR hN hX hNs hXl hE hZ hm hXs
      go_enter Try.func39, Try.ntmps39
      go_wp2_with fail
      refine Calls.world ?_
      intro W hW
      have hbx : Box W w.heap.size [.string N, .slice ao t.attrs.length ac, .slice ko t.kids.length kc, .string X] := by rw [hW]; exact Box.new w _ _ _ rfl
      have hBW : Below w.heap.size w W := by rw [hW]; exact (Below.refl _ w).alloc (Nat.le_refl _) _
      clear hW
      refine (HPC.out _ hBW).mono ?_
      rintro e wo ⟨rfl, hbo⟩
      have hbx2 := hbx.below hbo hbx.lt
      have HZ := Lib.hid (hBW.trans (hbo.mono hBW.size))
      have HX2 := Lib.hid hbx2
      have y2 := hbx2.cell 2 _ rfl
      have ly := hbx2.lt
      clear hbx hBW hbo hbx2 HPC
      go_wp2_with fail
      go_loopw [4, 41] (fun s i wr => ∃ (k : Nat) (T : S), k ≤ t.kids.length ∧ i = .int .i64 k ∧ s = .string T ∧ Hid (T = bs (tagP ⟨1, t.name, t.attrs, []⟩ [62] ++ nNote ++ notedL (t.kids.take k)) ∧ Below wo.heap.size wo wr)) (fun _ i _ => t.kids.length - (intOf i).toNat)
      case atStart => exact ⟨0, _, Nat.zero_le _, rfl, rfl, HZC.out, Below.refl _ _⟩
      case round =>
        obtain ⟨k, T, hk, rfl, rfl, HR⟩ := hrel
        clear y2 hm1 hm2 hm3
        have hTs : T.size ≤ 6000000000 := by
          rw [HR.out.1, bs_size, List.length_append, List.length_append]
          have h1 := tagT_len 1 t.name t.attrs [62]
          have h2 := notedL_len (t.kids.take k)
          have h3 := wtL_take_le t.kids k
          have h4 := HWT.out
          simp only [List.length_cons, List.length_nil, nNote] at h1 ⊢
          omega
        by_cases hlt : k < t.kids.length
        · have hbw := HZ.out.trans (HR.out.2.mono HZ.out.size)
          obtain ⟨g, o, r1, r2, s1, s2, rfl, hg, -, c0, c1, c2, c3, hn1⟩ := (HT.out.later hbw).at k hlt
          have hki : (k : Int) < (t.kids.length : Int) := by omega
          have HC := Lib.hid (fun o1 => HI.out k hlt (wr.alloc o1) _ _ (hn1.later ((Below.refl _ _).alloc (Nat.le_refl _) _)))
          have HBN := Lib.hid (fun o1 => HR.out.2.alloc HR.out.2.size o1)
          have HPT := Lib.hid (notedL_take hlt)
          obtain ⟨Y, hY⟩ : ∃ Y : S, bs (notedB t.kids[k]) = Y := ⟨_, rfl⟩
          have hYs : Y.size ≤ 6000000000 := by
            rw [← hY, bs_size]
            have h1 := noted_len t.kids[k]
            have h2 := wtL_take t.kids k hlt
            have h4 := HWT.out
            omega
          have HYY : Hid (T ++ Y = bs (tagP ⟨1, t.name, t.attrs, []⟩ [62] ++ nNote ++ notedL (t.kids.take (k + 1)))) := by
            show _ = _
            rw [HR.out.1, ← hY, bs_append, HPT.out, List.append_assoc]
          rw [hY] at HC
          unfold nodeV at HC
          clear hbw hn1 hY
          go_wp2_with fail
          refine (HC.out _).mono ?_
          rintro e w4 ⟨rfl, hb4⟩
          have HB4 := Lib.hid ((HBN.out _).trans (hb4.mono (HBN.out _).size))
          clear hb4 HC HBN
          go_wp2
          go_roundw
          case rel => exact ⟨k + 1, _, hlt, by go_num, rfl, HYY.out, HB4.out⟩
          case measure => simp [intOf]; omega
        · obtain rfl : k = t.kids.length := by omega
          have x3 := HX2.out.below HR.out.2 ly
          have y0 := x3.cell 0 _ rfl
          have ly3 := x3.lt
          have hki : ¬ (t.kids.length : Int) < (t.kids.length : Int) := by omega
          have HF : Hid (T ++ (⟨#[60, 47]⟩ : S) ++ N ++ (⟨#[32, 62]⟩ : S) = bs (notedB t)) := by
            show _ = _
            have h1 := HR.out.1
            rw [List.take_length] at h1
            rw [HPR.out, h1, ← HNN.out, show (⟨#[60, 47]⟩ : S) = bs [60, 47] from rfl, show (⟨#[32, 62]⟩ : S) = bs [32, 62] from rfl, bs_append, bs_append, bs_append]
            simp
          have HB5 := Lib.hid (HZ.out.trans (HR.out.2.mono HZ.out.size))
          clear x3
          go_wp2
          go_ret
          exact ⟨by rw [← HF.out]; rfl, HB5.out⟩
theorem noted_any (t : Tr) (w : World) (av kv : Value) (ht : NodeOf w t av kv) (hw : t.wt ≤ 900000000) : Calls Try.prog 39 #[nodeV t av kv] w fun e w' => e = .returned (.string (bs (notedB t))) ∧ Below w.heap.size w w' := noted_go _ t w av kv (Nat.le_refl _) ht hw

end Go.Proofs.Ytpchljiiappmnaa

/- The law TreeNotes, walked; the conditions stand in the theorem. -/
namespace Go.Proofs.Ytpchljiiappmnaa
open Go Go.RowKit

theorem eqg_placeN : Try.prog.eqGuardType Try.prog.depth 26 = false := by kernel_rfl
theorem eqs_placeN : Try.prog.stoodInHeld 26 = false := by kernel_rfl
theorem eql_placeN (a b c : Int) (w : World) : (binOp .eql 26 (.agg #[.int .i64 a, .int .i64 b, .int .i64 c]) (.agg #[.int .i64 a, .int .i64 b, .int .i64 c])).run Try.prog w = .ok (.bool true) w := by
  have h := eqs_placeN
  simp [go_sem, h]

attribute [local go_sem ↓] eqg_placeN eql_placeN in
set_option maxRecDepth 100000 in
set_option maxHeartbeats 16000000 in
theorem treeNotesLaw_any (t : Tr) (x : Int) (mx : Int) (w : World) (av kv : Value) (hx : 0 ≤ x) (ht : NodeOf w t av kv) (hm : w.cell? ⟨0, 0, none⟩ = some (.int .i64 mx)) :
    Calls Try.prog 12 #[nodeV t av kv, .int .u64 x] w fun e w' => e = .returned (.bool true) ∧ Below w.heap.size w w' := by
  have hw0 : 0 < w.heap.size := World.block_lt_of_cell? w _ hm
  obtain ⟨ao, ac, ko, kc, rfl, rfl, -, -⟩ := ht.shape
  have HLV : Hid (∀ W, Below w.heap.size w W → Calls Try.prog 36 #[] W fun e w' => e = .returned (.bool true) ∧ Below W.heap.size W w') := fun W h => treeLives_any mx W ((h.cell (by exact hw0)).trans hm)
  have HLA : Hid (∀ W, Below w.heap.size w W → Calls Try.prog 37 #[.agg #[.string (bs t.name), .slice ao t.attrs.length ac, .slice ko t.kids.length kc, .string (bs t.text)]] W fun e w' => Below W.heap.size W w' ∧ ∃ b : Bool, e = .returned (.bool b) ∧ (b = true → LightT t ∧ t.cnt ≤ 300)) := fun W h => lightTop_any t W _ _ (ht.later h)
  have HMX : Hid (∀ W, Below w.heap.size w W → W.cell? ⟨0, 0, none⟩ = some (.int .i64 mx)) := fun W h => (h.cell (by exact hw0)).trans hm
  have HT := Lib.hid ht
  have HX : Hid (0 ≤ x) := hx
  clear hx
  clear ht hm
  unfold nodeV
  go_enter Try.func12, Try.ntmps12
  go_wp2_with fail
  refine Calls.world ?_
  intro W0 hW0
  have hb0 : Below w.heap.size w W0 := by rw [hW0]; exact (Below.refl _ w).alloc (Nat.le_refl _) _
  have xa : Box W0 w.heap.size [.string (bs t.name), .slice ao t.attrs.length ac, .slice ko t.kids.length kc, .string (bs t.text)] := by rw [hW0]; exact Box.new w _ _ _ rfl
  clear hW0
  refine (HLA.out _ hb0).mono ?_
  rintro e w2 ⟨hb1, z, rfl, hz⟩
  have hB2 := hb0.trans (hb1.mono hb0.size)
  have xa2 := xa.below hb1 xa.lt
  have HZ := Lib.hid hz
  have HB2 := Lib.hid hB2
  have HX2 := Lib.hid xa2
  clear hz hb0 hb1 xa HLA xa2 hB2
  cases z with
  | false =>
    go_wp2_with fail
    refine (HLV.out _ HB2.out).mono ?_
    rintro e w3 ⟨rfl, hb3⟩
    have HB3 := Lib.hid (HB2.out.trans (hb3.mono HB2.out.size))
    clear hb3
    go_wp2
    go_ret
    exact ⟨rfl, HB3.out⟩
  | true =>
    obtain ⟨hli, hcn⟩ := HZ.out (by trivial)
    have hwt := wt_light t hli
    have HWT : Hid (t.wt ≤ 900000000) := by show _ ≤ _; omega
    have hfi := hli.fine
    obtain ⟨q, hq⟩ := bool_of (MayT t)
    have HMY : Hid (∀ V, Below w.heap.size w V → Calls Try.prog 38 #[.agg #[.string (bs t.name), .slice ao t.attrs.length ac, .slice ko t.kids.length kc, .string (bs t.text)]] V fun e w' => e = .returned (.bool q) ∧ Below V.heap.size V w') := fun V h => (refMay_any t V _ _ (HT.out.later h) hfi (by omega)).mono fun e w' h => h.qb hq
    have HQ := Lib.hid hq
    have y0 := HX2.out.cell 0 _ rfl
    have y1 := HX2.out.cell 1 _ rfl
    have y2 := HX2.out.cell 2 _ rfl
    have y3 := HX2.out.cell 3 _ rfl
    have yl := HX2.out.lt
    clear hli hcn hwt hfi HZ hq
    go_wp2_with fail
    refine (HMY.out _ HB2.out).mono ?_
    rintro e w3 ⟨rfl, hb3⟩
    have HB3 := Lib.hid (HB2.out.trans (hb3.mono HB2.out.size))
    have HX3 := Lib.hid (HX2.out.below hb3 yl)
    clear hb3 HMY y0 y1 y2 y3 yl HX2 HB2
    cases q with
    | false =>
      go_wp2_with fail
      refine (HLV.out _ HB3.out).mono ?_
      rintro e w4 ⟨rfl, hb4⟩
      have HB4 := Lib.hid (HB3.out.trans (hb4.mono HB3.out.size))
      clear hb4
      go_wp2
      go_ret
      exact ⟨rfl, HB4.out⟩
    | true =>
      have hmay : MayT t := HQ.out.1 (by trivial)
      have HMAY := Lib.hid hmay
      obtain ⟨Q, hQQ⟩ : ∃ Q : S, bs (notedB t) = Q := ⟨_, rfl⟩
      have hQs : Q.size ≤ 6000000000 := by
        rw [← hQQ, bs_size]
        have h1 := noted_len t
        have h2 := HWT.out
        omega
      have HQQ := Lib.hid hQQ
      have HPR : Hid (∀ V, Below w.heap.size w V → Calls Try.prog 39 #[.agg #[.string (bs t.name), .slice ao t.attrs.length ac, .slice ko t.kids.length kc, .string (bs t.text)]] V fun e w' => e = .returned (.string Q) ∧ Below V.heap.size V w') := fun V h => by
        have h1 := noted_any t V _ _ (HT.out.later h) HWT.out
        rw [hQQ] at h1
        exact h1
      obtain ⟨m, hm8⟩ : ∃ m : Nat, x % 8 = (m : Int) := ⟨(x % 8).toNat, by omega⟩
      have hm9 : x.tmod 8 = (m : Int) := by rw [Int.tmod_eq_emod_of_nonneg HX.out]; exact hm8
      have hmb : m < 8 := by omega
      clear hmay HQ hQQ
      go_wp2_with fail
      go_loopw [5, 23] (fun s i wr => ∃ (j : Nat) (P : S), j ≤ m ∧ i = .int .i64 j ∧ s = .string P ∧ P.size = j ∧ Hid ((∃ p : Bs, P = bs p ∧ ∀ c ∈ p, cBlank c = true) ∧ Below w3.heap.size w3 wr)) (fun _ i _ => m - (intOf i).toNat)
      case atStart => exact ⟨0, _, Nat.zero_le _, rfl, rfl, rfl, ⟨⟨[], rfl, by simp⟩, Below.refl _ _⟩⟩
      case round =>
      obtain ⟨j, P, hj, rfl, rfl, hPs, HR⟩ := hrel
      by_cases hlt : j < m
      · have hji : (j : Int) < (m : Int) := by omega
        obtain ⟨r, hr⟩ : ∃ r, r = j % 4 := ⟨_, rfl⟩
        have hr4 : (j : Int) % 4 = (r : Int) := by omega
        have hrb : r < 4 := by omega
        have hr1 : (r : Int) ≤ (r : Int) + 1 := by omega
        have hr2 : (r : Int) + 1 ≤ 4 := by omega
        have hEX : ∃ c, (⟨#[32, 10, 9, 13]⟩ : S).extract r (r + 1) = bs [c] ∧ cBlank c = true := by
          have h4 : ∀ r : Fin 4, ∃ c, (⟨#[32, 10, 9, 13]⟩ : S).extract r.1 (r.1 + 1) = bs [c] ∧ cBlank c = true := fun r => ⟨(⟨#[32, 10, 9, 13]⟩ : S)[r.1]'r.2, by
            rw [ext_one _ _ (by exact r.2)], by revert r; decide⟩
          exact h4 ⟨r, hrb⟩
        obtain ⟨c, hc1, hc2⟩ := hEX
        have hX : ((⟨#[32, 10, 9, 13]⟩ : S).extract r (r + 1)).size = 1 := by rw [hc1, bs_size]; rfl
        have HN : Hid ((∃ p : Bs, P ++ (⟨#[32, 10, 9, 13]⟩ : S).extract r (r + 1) = bs p ∧ ∀ c ∈ p, cBlank c = true) ∧ Below w3.heap.size w3 wr) := by
          refine ⟨?_, HR.out.2⟩
          obtain ⟨p, hp1, hp2⟩ := HR.out.1
          refine ⟨p ++ [c], by rw [hp1, hc1, bs_append], fun y hy => ?_⟩
          rcases List.mem_append.1 hy with hy | hy
          · exact hp2 y hy
          · simp at hy; subst hy; exact hc2
        clear hr hc1 hc2 HR
        go_wp2
        go_roundw
        case rel => exact ⟨j + 1, _, hlt, by go_num, rfl, by rw [ByteArray.size_append, hX, hPs], HN.out⟩
        case measure => simp [intOf]; omega
      obtain rfl : j = m := by omega
      have hji : ¬ (j : Int) < (j : Int) := by omega
      obtain ⟨wo, hwo⟩ : ∃ wo : World, wo = wr := ⟨_, rfl⟩
      subst hwo
      obtain ⟨p, hp1, hp2⟩ := HR.out.1
      have HBp := Lib.hid hp2
      have HBK : Hid (buildR (notesT t p) = .ok t []) := tree_notes HMAY.out hp2
      have HP1 := Lib.hid hp1
      have HX3b := Lib.hid (HX3.out.below HR.out.2 HX3.out.lt)
      have HB3b := Lib.hid (HB3.out.trans (HR.out.2.mono HB3.out.size))
      have y0 := HX3b.out.cell 0 _ rfl
      have y1 := HX3b.out.cell 1 _ rfl
      have y2 := HX3b.out.cell 2 _ rfl
      have y3 := HX3b.out.cell 3 _ rfl
      have yl := HX3b.out.lt
      clear hp1 hp2 HR HX3 HB3
      go_wp2_with fail
      refine (HPR.out _ HB3b.out).mono ?_
      rintro e w4 ⟨rfl, hb4⟩
      have HB4 := Lib.hid (HB3b.out.trans (hb4.mono HB3b.out.size))
      have HX4 := Lib.hid (HX3b.out.below hb4 yl)
      clear hb4 HPR y0 y1 y2 y3 yl HX3b HB3b
      go_upto_region 10 with fail
      obtain ⟨Y, hY⟩ : ∃ Y : S, Y = (⟨#[60, 63, 120, 109, 108, 32, 118, 101, 114, 115, 105, 111, 110, 61, 34, 49, 46, 48, 34, 63, 62]⟩ : S) ++ P ++ (⟨#[60, 33, 45, 45, 32, 97, 32, 60, 32, 98, 32, 45, 45, 62]⟩ : S) ++ P ++ Q ++ P ++ (⟨#[60, 33, 45, 45, 45, 45, 62]⟩ : S) := ⟨_, rfl⟩
      rw [← hY]
      have HYE : Hid (Y = bs (notesT t p)) := by
        show _ = _
        rw [hY, HP1.out, ← HQQ.out, show (⟨#[60, 63, 120, 109, 108, 32, 118, 101, 114, 115, 105, 111, 110, 61, 34, 49, 46, 48, 34, 63, 62]⟩ : S) = bs nHead from rfl, show (⟨#[60, 33, 45, 45, 32, 97, 32, 60, 32, 98, 32, 45, 45, 62]⟩ : S) = bs nLess from rfl, show (⟨#[60, 33, 45, 45, 45, 45, 62]⟩ : S) = bs nEnd from rfl]
        simp only [bs_append, notesT, List.append_assoc]
      clear hY
      by_cases hsz : 65536 < Y.size
      · have hI : (65536 : Int) < (Y.size : Int) := by omega
        clear hsz
        go_wp2_with fail
        refine (HLV.out _ HB4.out).mono ?_
        rintro e w5 ⟨rfl, hb5⟩
        have HB5 := Lib.hid (HB4.out.trans (hb5.mono HB4.out.size))
        clear hb5
        go_wp2
        go_ret
        exact ⟨rfl, HB5.out⟩
      · have hI : ¬ (65536 : Int) < (Y.size : Int) := by omega
        have HBU : Hid (Calls Try.prog 33 #[.string Y] w4 (BuildOut Y w4 (.ok t []))) := by
          have h := build_any Y mx w4 (by omega) (HMX.out _ HB4.out)
          rw [show buildR Y.data.toList = .ok t [] by rw [HYE.out, bs_data]; exact HBK.out] at h
          exact h
        clear hsz
        go_wp2_with fail
        refine HBU.out.mono ?_
        rintro e w5 ⟨av2, kv2, rfl, hn, hb5⟩
        obtain ⟨a1, a2, k1, k2, rfl, rfl, -, -⟩ := hn.shape
        have HN := Lib.hid hn
        have HB5 := Lib.hid (HB4.out.trans (hb5.mono HB4.out.size))
        have HX5 := Lib.hid (HX4.out.below hb5 HX4.out.lt)
        clear hn hb5 HBU HX4 HB4
        unfold nodeV zeroPlace
        have y0 := HX5.out.cell 0 _ rfl
        have y1 := HX5.out.cell 1 _ rfl
        have y2 := HX5.out.cell 2 _ rfl
        have y3 := HX5.out.cell 3 _ rfl
        have yl := HX5.out.lt
        go_wp2_with fail
        refine Calls.world ?_
        intro W1 hW1
        have hb1 : Below w5.heap.size w5 W1 := by rw [hW1]; exact ((Below.refl _ _).alloc (Nat.le_refl _) _).alloc (by simp) _
        clear hW1 y0 y1 y2 y3 yl
        have hB1 := HB5.out.trans (hb1.mono HB5.out.size)
        have HSM := refSame_any _ t t W1 _ _ (.slice a1 t.attrs.length a2) (.slice k1 t.kids.length k2) (Nat.le_refl _) (HT.out.later hB1) (HN.out.later hb1)
        unfold nodeV at HSM
        refine HSM.mono ?_
        rintro e w6 ⟨z, rfl, hz, hb6⟩
        obtain rfl : z = true := hz.2 rfl
        have HB6 := Lib.hid (hB1.trans (hb6.mono hB1.size))
        clear hz hb6 hB1 hb1 HSM
        go_wp2_with fail
        refine (HLV.out _ HB6.out).mono ?_
        rintro e w7 ⟨rfl, hb7⟩
        have HB7 := Lib.hid (HB6.out.trans (hb7.mono HB6.out.size))
        clear hb7
        go_wp2
        go_ret
        exact ⟨rfl, HB7.out⟩

end Go.Proofs.Ytpchljiiappmnaa
