/- Plain law: a tag of any names and values is read as these; no program in sight. -/
import Derived.Test.YtpchljiiappmnaaG13
import Derived.Test.YtpchljiiappmnaaG9
import Derived.Deep.RegionHeld3
namespace Go.Proofs.Ytpchljiiappmnaa
open Go Go.RowKit

/-- A name and a value as the law asks for them. -/
structure GoodA (a : At2) : Prop where
  name : nameLen a.1 = a.1.length
  ne : a.1 ≠ []
  text : ∀ c ∈ a.2, cText c = true
/-- One attribute's text, in either quotes. -/
def attT (q : Bool) (a : At2) : Bs := if q then 10 :: (a.1 ++ (32 :: 61 :: 9 :: 39 :: (aposR (esc true a.2) ++ [39]))) else 32 :: (a.1 ++ (61 :: 34 :: (esc true a.2 ++ [34])))
def attsT (l : List (Bool × At2)) : Bs := l.flatMap fun p => attT p.1 p.2

theorem span_all {p : UInt8 → Bool} {n : Bs} (h : span p n = n.length) {c : UInt8} (hc : p c = false) (r : Bs) : span p (n ++ c :: r) = n.length := by
  induction n with
  | nil => simp [span, hc]
  | cons x n ih =>
    simp only [span] at h
    by_cases hx : p x = true
    · rw [if_pos hx] at h
      simp only [List.cons_append, span]
      rw [if_pos hx, ih (by simpa using h)]; rfl
    · rw [if_neg hx] at h; simp at h
theorem name_all {n : Bs} (h : nameLen n = n.length) (hne : n ≠ []) {c : UInt8} (hc : cName c = false) (r : Bs) : nameLen (n ++ c :: r) = n.length := by
  cases n with
  | nil => exact absurd rfl hne
  | cons x n =>
    simp only [List.cons_append, nameLen] at h ⊢
    by_cases hx : cFirst x = true
    · rw [if_pos hx] at h ⊢
      exact span_all (n := x :: n) h hc r
    · rw [if_neg hx] at h; simp at h
theorem name_first {n : Bs} (h : nameLen n = n.length) (hne : n ≠ []) : ∃ c r, n = c :: r ∧ cFirst c = true := by
  cases n with
  | nil => exact absurd rfl hne
  | cons x n =>
    simp only [nameLen] at h
    by_cases hx : cFirst x = true
    · exact ⟨x, n, rfl, hx⟩
    · rw [if_neg hx] at h; simp at h
theorem nameR_all {e : Int} {n : Bs} (h : nameLen n = n.length) (hne : n ≠ []) {c : UInt8} (hc : cName c = false) (r : Bs) : nameR e (n ++ c :: r) = .ok n (c :: r) := by
  have h1 := name_all h hne hc r
  obtain ⟨x, m, rfl, -⟩ := name_first h hne
  simp only [List.cons_append, nameR] at h1 ⊢
  rw [if_neg (by rw [h1]; simp), h1]
  congr 1
  · show ((x :: m) ++ c :: r).take _ = _; rw [List.take_left]
  · show ((x :: m) ++ c :: r).drop _ = _; rw [List.drop_left]
theorem first_blank {c : UInt8} (h : cFirst c = true) : cBlank c = false ∧ c ≠ 47 ∧ c ≠ 62 ∧ c ≠ 33 ∧ c ≠ 63 := by
  have h2 : ∀ n : Fin 256, cFirst (UInt8.ofNat n) = true → cBlank (UInt8.ofNat n) = false ∧ UInt8.ofNat n ≠ 47 ∧ UInt8.ofNat n ≠ 62 ∧ UInt8.ofNat n ≠ 33 ∧ UInt8.ofNat n ≠ 63 := by decide +kernel
  have := h2 ⟨c.toNat, c.toNat_lt⟩
  simp only [UInt8.ofNat_toNat] at this
  exact this h

theorem valueR_q {q : UInt8} (hq : q = 34 ∨ q = 39) {e d : Bs} (h : Reads q e d) (r : Bs) : valueR (q :: (e ++ q :: r)) = .ok d r := by
  simp only [valueR]
  rw [if_pos hq, letters_reads h r]; rfl
theorem attrR_t (acc : List At2) (q : Bool) (a : At2) (r : Bs) (ha : GoodA a) (hn : acc.any (fun b => b.1 == a.1) = false) : attrR acc ((attT q a).tail ++ r) = .ok a r := by
  rw [attrR_eq]
  cases q
  · show (nameR 10 ((a.1 ++ (61 :: 34 :: (esc true a.2 ++ [34]))) ++ r)).bind _ = _
    rw [show (a.1 ++ (61 :: 34 :: (esc true a.2 ++ [34]))) ++ r = a.1 ++ 61 :: (34 :: (esc true a.2 ++ 34 :: r)) by simp, nameR_all ha.name ha.ne (by decide)]
    show (if (acc.any fun b => b.1 == a.1) then _ else restR a.1 (61 :: 34 :: (esc true a.2 ++ 34 :: r))) = _
    rw [hn, if_neg (by decide)]
    unfold restR
    have e1 : blanks (61 :: 34 :: (esc true a.2 ++ 34 :: r)) = 61 :: 34 :: (esc true a.2 ++ 34 :: r) := by simp [blanks, cBlank]
    have e2 : blanks (34 :: (esc true a.2 ++ 34 :: r)) = 34 :: (esc true a.2 ++ 34 :: r) := by simp [blanks, cBlank]
    rw [e1]
    show (Res.map _ (valueR (blanks (34 :: (esc true a.2 ++ 34 :: r))))) = _
    rw [e2, valueR_q (.inl rfl) (reads_escs (by decide) (.inr ⟨rfl, rfl⟩) a.2 ha.text)]; rfl
  · show (nameR 10 ((a.1 ++ (32 :: 61 :: 9 :: 39 :: (aposR (esc true a.2) ++ [39]))) ++ r)).bind _ = _
    rw [show (a.1 ++ (32 :: 61 :: 9 :: 39 :: (aposR (esc true a.2) ++ [39]))) ++ r = a.1 ++ 32 :: (61 :: 9 :: 39 :: (aposR (esc true a.2) ++ 39 :: r)) by simp, nameR_all ha.name ha.ne (by decide)]
    show (if (acc.any fun b => b.1 == a.1) then _ else restR a.1 (32 :: 61 :: 9 :: 39 :: (aposR (esc true a.2) ++ 39 :: r))) = _
    rw [hn, if_neg (by decide)]
    unfold restR
    have e1 : blanks (32 :: 61 :: 9 :: 39 :: (aposR (esc true a.2) ++ 39 :: r)) = 61 :: 9 :: 39 :: (aposR (esc true a.2) ++ 39 :: r) := by simp [blanks, cBlank]
    have e2 : blanks (9 :: 39 :: (aposR (esc true a.2) ++ 39 :: r)) = 39 :: (aposR (esc true a.2) ++ 39 :: r) := by simp [blanks, cBlank]
    rw [e1]
    show (Res.map _ (valueR (blanks (9 :: 39 :: (aposR (esc true a.2) ++ 39 :: r))))) = _
    rw [e2, valueR_q (.inr rfl) (reads_aposs a.2 ha.text)]; rfl

theorem attT_tail (q : Bool) (a : At2) (ha : GoodA a) (r : Bs) : blanks (attT q a ++ r) = (attT q a).tail ++ r ∧ tagEnds (attT q a ++ r) = false := by
  obtain ⟨x, m, hx, hf⟩ := name_first ha.name ha.ne
  obtain ⟨h1, h2, h3, -, -⟩ := first_blank hf
  have hb : blanks (attT q a ++ r) = (attT q a).tail ++ r := by
    cases q <;> (simp only [attT, if_true, Bool.false_eq_true, if_false, hx, List.cons_append, List.tail_cons, blanks]; rw [if_pos (by decide), if_neg (by rw [h1]; decide)])
  refine ⟨hb, ?_⟩
  unfold tagEnds
  rw [hb]
  cases q <;> simp [attT, hx, h2, h3]

theorem attrsGo_t (tail : Bs) (ht : tail = [32, 62] ∨ tail = [47, 62]) (l : List (Bool × At2)) : ∀ f acc, l.length < f → (∀ p ∈ l, GoodA p.2) → ((acc ++ l.map (·.2)).map (·.1)).Nodup → attrsGo f acc (attsT l ++ tail) = .ok (acc ++ l.map (·.2)) (blanks tail) := by
  induction l with
  | nil =>
    intro f acc hf _ _
    obtain ⟨f, rfl⟩ : ∃ g, f = g + 1 := ⟨f - 1, by simp at hf; omega⟩
    have he : tagEnds (attsT [] ++ tail) = true := by rcases ht with rfl | rfl <;> rfl
    simp only [attrsGo]
    rw [if_pos he]
    show Res.ok acc (blanks tail) = Res.ok (acc ++ []) (blanks tail)
    rw [List.append_nil]
  | cons p l ih =>
    intro f acc hf hg hn
    obtain ⟨f, rfl⟩ : ∃ g, f = g + 1 := ⟨f - 1, by simp at hf; omega⟩
    have ha := hg p (by simp)
    obtain ⟨h1, h2⟩ := attT_tail p.1 p.2 ha (attsT l ++ tail)
    have hany : acc.any (fun b => b.1 == p.2.1) = false := by
      rw [List.any_eq_false]
      intro b hb e
      rw [List.map_append, List.nodup_append] at hn
      exact hn.2.2 b.1 (List.mem_map.2 ⟨b, hb, rfl⟩) p.2.1 (by simp) (by simpa using e)
    show attrsGo (f + 1) acc ((attT p.1 p.2 ++ attsT l) ++ tail) = _
    rw [List.append_assoc]
    simp only [attrsGo]
    rw [h2, if_neg (by decide), h1, attrR_t acc p.1 p.2 _ ha hany]
    show attrsGo f (acc ++ [p.2]) (attsT l ++ tail) = _
    rw [ih f (acc ++ [p.2]) (by simp at hf; omega) (fun x hx => hg x (by simp [hx])) (by simpa using hn)]
    simp

theorem attsT_len (l : List (Bool × At2)) : l.length ≤ (attsT l).length := by
  induction l with
  | nil => exact Nat.le_refl _
  | cons p l ih =>
    show _ ≤ (attT p.1 p.2 ++ attsT l).length
    rw [List.length_append]
    have : 1 ≤ (attT p.1 p.2).length := by unfold attT; split <;> simp
    simp; omega
/-- The law of TokenTags. -/
theorem tags_all (name : Bs) (l : List (Bool × At2)) (hn : nameLen name = name.length) (hne : name ≠ []) (hg : ∀ p ∈ l, GoodA p.2) (hd : ((l.map (·.2)).map (·.1)).Nodup) (tail : Bs) (k : Int) (ht : (tail = [32, 62] ∧ k = 1) ∨ (tail = [47, 62] ∧ k = 2)) :
    allR (60 :: (name ++ (attsT l ++ tail))) = .ok [(⟨k, name, l.map (·.2), []⟩, 60 :: (name ++ (attsT l ++ tail)))] [] := by
  obtain ⟨x, m, hx, hf⟩ := name_first hn hne
  obtain ⟨-, h47, -, h33, h63⟩ := first_blank hf
  have ht' : tail = [32, 62] ∨ tail = [47, 62] := ht.imp And.left And.left
  obtain ⟨c, r, hc, hcn⟩ : ∃ c r, attsT l ++ tail = c :: r ∧ cName c = false := by
    cases l with
    | nil => rcases ht' with rfl | rfl; exact ⟨32, [62], rfl, by decide⟩; exact ⟨47, [62], rfl, by decide⟩
    | cons p l =>
      cases hp : p.1
      · exact ⟨32, (attT p.1 p.2).tail ++ (attsT l ++ tail), by show (attT p.1 p.2 ++ attsT l) ++ tail = _; rw [List.append_assoc, hp]; rfl, by decide⟩
      · exact ⟨10, (attT p.1 p.2).tail ++ (attsT l ++ tail), by show (attT p.1 p.2 ++ attsT l) ++ tail = _; rw [List.append_assoc, hp]; rfl, by decide⟩
  have h0 : tokenR true (60 :: (name ++ (attsT l ++ tail))) = .ok ⟨k, name, l.map (·.2), []⟩ [] := by
    have e1 : 60 :: (name ++ (attsT l ++ tail)) = 60 :: x :: (m ++ (attsT l ++ tail)) := by rw [hx]; rfl
    rw [e1, tokS_open true _ h33 h63 h47, openR_eq, show x :: (m ++ (attsT l ++ tail)) = name ++ c :: r by rw [hc, hx]; rfl, nameR_all hn hne hcn]
    show (attrsR (c :: r)).bind _ = _
    rw [← hc]
    unfold attrsR
    rw [attrsGo_t tail ht' l _ [] (by have := attsT_len l; rw [List.length_append]; omega) hg (by simpa using hd)]
    rcases ht with ⟨rfl, rfl⟩ | ⟨rfl, rfl⟩ <;> rfl
  unfold allR
  show allGo ((name ++ (attsT l ++ tail)).length + 1) true [] _ = _
  rw [allGo_step (by simp) h0, allGo_nil]; rfl

end Go.Proofs.Ytpchljiiappmnaa

/- How tokens are printed, and the walk of the program's tag; the conditions stand in the theorem. -/
namespace Go.Proofs.Ytpchljiiappmnaa
open Go Go.RowKit

def attsP (l : List At2) : Bs := l.flatMap (attT false)
def tagP (t : Tk) (fin : Bs) : Bs := 60 :: (t.name ++ (attsP t.attrs ++ fin))
def tokP (t : Tk) : Bs :=
  if t.kind = 5 then sNote ++ (t.text ++ eNote) else if t.kind = 6 then sHead ++ (t.text ++ eHead) else if t.kind = 3 then [60, 47] ++ (t.name ++ [62])
  else if t.kind = 1 then tagP t [62] else if t.kind = 2 then tagP t [47, 62] else if t.kind = 4 then esc false t.text else []
def printP (ts : List Tk) : Bs := ts.flatMap tokP

/-- How great a tag may become. -/
def attsW (l : List At2) : Nat := (l.map fun a => a.1.length + 6 * a.2.length + 4).sum
theorem attP_len (a : At2) : (attT false a).length ≤ a.1.length + 6 * a.2.length + 4 := by
  have := (esc_len true a.2).2
  unfold attT
  simp only [Bool.false_eq_true, if_false, List.length_cons, List.length_append, List.length_nil]; omega
theorem attsP_len (l : List At2) : (attsP l).length ≤ attsW l := by
  induction l with
  | nil => exact Nat.le_refl _
  | cons a l ih =>
    have := attP_len a
    show (attT false a ++ attsP l).length ≤ _
    unfold attsW at *
    rw [List.length_append, List.map_cons, List.sum_cons]; omega
theorem attsW_take (l : List At2) (k : Nat) : attsW (l.take k) ≤ attsW l := by
  induction l generalizing k with
  | nil => simp [attsW]
  | cons a l ih =>
    cases k with
    | zero => simp [attsW]
    | succ k => have := ih k; unfold attsW at *; simp only [List.take_succ_cons, List.map_cons, List.sum_cons]; omega
theorem attsW_get {l : List At2} {k : Nat} (h : k < l.length) : l[k].1.length + 6 * l[k].2.length + 4 ≤ attsW l := by
  induction l generalizing k with
  | nil => simp at h
  | cons a l ih =>
    cases k with
    | zero => unfold attsW; simp only [List.map_cons, List.sum_cons, List.getElem_cons_zero]; omega
    | succ k => have := ih (k := k) (by simpa using h); unfold attsW at *; simp only [List.map_cons, List.sum_cons, List.getElem_cons_succ]; omega
theorem attsP_snoc {l : List At2} {k : Nat} (h : k < l.length) : attsP (l.take (k + 1)) = attsP (l.take k) ++ attT false l[k] := by
  rw [List.take_succ_eq_append_getElem h]; unfold attsP; rw [List.flatMap_append]; simp

theorem byteCells_len (l : Bs) : (Lib.byteCells l).length = l.length := by simp [Lib.byteCells]
theorem str_cells {s : S} {l : Bs} (h : s = bs l) (cs : Bs) : Lib.byteCells cs ++ Lib.strCells s = Lib.byteCells (cs ++ l) := by rw [h, byteCells_app]
/-- The text of one attribute, in the walk's words. -/
theorem att_str {N V E : S} {a : At2} (h1 : N = bs a.1) (h2 : V = bs a.2) (h3 : E = bs (esc true V.data.toList)) : (⟨#[32]⟩ : S) ++ N ++ (⟨#[61, 34]⟩ : S) ++ E ++ (⟨#[34]⟩ : S) = bs (attT false a) := by
  rw [h3, h2, bs_data, h1, show (⟨#[32]⟩ : S) = bs [32] from rfl, show (⟨#[61, 34]⟩ : S) = bs [61, 34] from rfl, show (⟨#[34]⟩ : S) = bs [34] from rfl, bs_append, bs_append, bs_append, bs_append]
  simp [attT]

set_option maxRecDepth 100000 in
set_option maxHeartbeats 8000000 in
theorem tag_any (w0 : World) (R b : Nat) (cs : Bs) (x : TkM) (fin : S) (w : World) (hB : Bld R b (Lib.byteCells cs) w) (hA : SliceOf 2 atC w0 x.av x.t.attrs) (h0 : Below w0.heap.size w0 w) (hR : w0.heap.size ≤ R) (hb0 : w0.heap.size ≤ b)
    (hsz : cs.length + x.t.name.length + attsW x.t.attrs + fin.size ≤ 100000000000) (hat : attsW x.t.attrs ≤ 1000000000) :
    Calls Try.prog 60 #[.pointer (some ⟨b, 0, none⟩), .agg #[.int .i64 x.t.kind, .string (bs x.t.name), x.av, .string (bs x.t.text), .int .i64 x.off, .int .i64 x.line, .int .i64 x.col], .string fin] w
      fun e w' => e = .returned (.tuple #[]) ∧ Bld R b (Lib.byteCells (cs ++ tagP x.t fin.data.toList)) w' ∧ Kept R b w w' := by
  obtain ⟨ao, cap, hv⟩ := hA.shape
  have hcap : x.t.attrs.length ≤ 9223372036854775807 := by
    obtain ⟨_, _, e, h2, h3, -⟩ := hA
    unfold maxLen at h3; omega
  rw [hv] at hA ⊢
  obtain ⟨N, hN⟩ : ∃ N : S, bs x.t.name = N := ⟨_, rfl⟩
  have hNs : N.size = x.t.name.length := by rw [← hN, bs_size]
  have HN := Lib.hid hN
  rw [hN]
  have HB := Lib.hid hB
  have HA := Lib.hid hA
  have H0 := Lib.hid h0
  have hbw := hB.lt
  have hRw := hB.room
  have hN2 : N.size ≤ 100000000000 := by omega
  have HNS := Lib.hid hNs
  clear hB hA h0 hN hv hNs
  generalize hl : x.t.attrs = l at *
  have HL := Lib.hid hl.symm
  clear hl
  go_enter Try.func60, Try.ntmps60
  go_wp2_with fail
  refine Calls.world ?_
  intro W hW
  have hbx : W.heap[w.heap.size]? = some (.cells #[.int .i64 x.t.kind, .string N, .slice ao l.length cap, .string (bs x.t.text), .int .i64 x.off, .int .i64 x.line, .int .i64 x.col] 34 (0, 0)) := by rw [hW]; exact heap_alloc_new w _
  have hbW : Below w.heap.size w W := by rw [hW]; exact (Below.refl _ _).alloc (Nat.le_refl _) _
  have hltW : w.heap.size < W.heap.size := by rw [hW]; simp
  clear hW
  refine (writeString_bld R b _ ((⟨#[60]⟩ : S) ++ N) W (HB.out.keep hbW) (by rw [byteCells_len, ByteArray.size_append, size_lit]; simp; omega)).mono ?_
  rintro e w1 ⟨rfl, hB1, hK1⟩
  have c2 : w1.cell? ⟨w.heap.size, 2, none⟩ = some (.slice ao l.length cap) := (hK1.var (by omega) (by decide) hbx 2).trans (by rw [Lib.cell_of_heap hbx]; rfl)
  have hlt1 : w.heap.size < w1.heap.size := Nat.lt_of_lt_of_le hltW hK1.size
  have HB1 : Hid (Bld R b (Lib.byteCells (cs ++ (60 :: x.t.name))) w1) := by
    have h1 : (⟨#[60]⟩ : S) ++ N = bs (60 :: x.t.name) := by rw [← HN.out, show (⟨#[60]⟩ : S) = bs [60] from rfl, bs_append]; rfl
    have h2 := hB1
    rw [str_cells h1] at h2
    exact h2
  have HK1 : Hid (Kept R b w w1) := (Kept.of_below hbW hRw).trans hK1
  clear hB1 hK1 hbx hbW hltW
  go_wp2_with fail
  clear c2
  go_loopw [16] (fun i wr => ∃ k : Nat, k ≤ l.length ∧ i = .int .i64 k ∧ Bld R b (Lib.byteCells (cs ++ (60 :: x.t.name) ++ attsP (l.take k))) wr ∧ Kept R b w wr) (fun i _ => l.length - (intOf i).toNat)
  case atStart => exact ⟨0, Nat.zero_le _, rfl, by have := HB1.out; simpa [attsP] using this, HK1.out⟩
  case round =>
    obtain ⟨k, hk, rfl, hB, hK⟩ := hrel
    have HBk := Lib.hid hB
    have HKk := Lib.hid hK
    have hwr := hK.size
    have hbr := hB.lt
    have hlen : (cs ++ (60 :: x.t.name) ++ attsP (l.take k)).length ≤ 100000000001 := by
      have h1 := attsP_len (l.take k)
      have h2 := attsW_take l k
      simp only [List.length_append, List.length_cons]; omega
    by_cases hlt : k < l.length
    · obtain ⟨g, o, rfl, hg, hc⟩ := HA.out.at hlt
      have tr : ∀ q u, w0.cell? ⟨g, q, none⟩ = some u → wr.cell? ⟨g, q, none⟩ = some u := fun q u hq => (hK.cell (by omega) (by omega)).trans ((H0.out.cell (by exact hg)).trans hq)
      have d0 := tr _ _ (hc 0 _ rfl)
      have d1 := tr _ _ (hc 1 _ rfl)
      rw [Nat.add_zero] at d0
      have hgr : g < wr.heap.size := by omega
      have hi1 : (k : Int) < (l.length : Int) := by omega
      have hw := attsW_get hlt
      obtain ⟨N2, hN2'⟩ : ∃ N2 : S, bs l[k].1 = N2 := ⟨_, rfl⟩
      obtain ⟨V, hV⟩ : ∃ V : S, bs l[k].2 = V := ⟨_, rfl⟩
      rw [hN2'] at d0
      rw [hV] at d1
      have hNs2 : N2.size ≤ 1000000000 := by rw [← hN2', bs_size]; omega
      have hVs : V.size ≤ 200000000 := by rw [← hV, bs_size]; omega
      obtain ⟨E, hE⟩ : ∃ E : S, E = bs (esc true V.data.toList) := ⟨_, rfl⟩
      have hEs : E.size ≤ 1200000000 := by
        rw [hE, bs_size]
        have := (esc_len true V.data.toList).2
        rw [size_data] at this; omega
      have HESC : Hid (∀ w, Calls Try.prog 61 #[.string V, .bool true] w fun e w' => e = .returned (.string E) ∧ Below w.heap.size w w') := fun w => by rw [hE]; exact escape_any V true w (by omega)
      have HAS := Lib.hid (att_str hN2'.symm hV.symm hE)
      have HSZ : Hid (((⟨#[32]⟩ : S) ++ N2 ++ (⟨#[61, 34]⟩ : S) ++ E ++ (⟨#[34]⟩ : S)).size ≤ 3000000000) := by
        show _ ≤ _
        simp only [ByteArray.size_append, size_lit]
        simp; omega
      clear hc tr hB hK hE hN2' hV
      go_wp2_with fail
      clear d0 d1
      refine wp_world ?_
      intro W2 hW2
      have hbx : W2.heap[wr.heap.size]? = some (.cells #[.string N2, .string V] 43 (0, 0)) := by rw [hW2]; exact heap_alloc_new wr _
      have hbW : Below wr.heap.size wr W2 := by rw [hW2]; exact (Below.refl _ _).alloc (Nat.le_refl _) _
      have z0 : W2.cell? ⟨wr.heap.size, 0, none⟩ = some (.string N2) := by rw [Lib.cell_of_heap hbx]; rfl
      have z1 : W2.cell? ⟨wr.heap.size, 1, none⟩ = some (.string V) := by rw [Lib.cell_of_heap hbx]; rfl
      have hlt2 : wr.heap.size < W2.heap.size := by rw [hW2]; simp
      have HB2 := Lib.hid ((HBk.out.keep hbW).keep (belowN (Below.refl _ _) 1))
      have HK2 := Lib.hid (HKk.out.trans (Kept.of_below hbW (by omega)))
      have HX := Lib.hid hbx
      have f1 : ¬ 9223372036854775807 < 1 + N2.size := by omega
      have f2 : ¬ 9223372036854775807 < 1 + N2.size + 2 := by omega
      have f3 : ¬ 9223372036854775807 < 1 + N2.size + 2 + E.size := by omega
      have f4 : ¬ 9223372036854775807 < 1 + N2.size + 2 + E.size + 1 := by omega
      clear hW2 hbx hbW
      go_region_held3 (fun w' => w'.cell? ⟨wr.heap.size, 0, none⟩ = some (.string N2) ∧ w'.cell? ⟨wr.heap.size, 1, none⟩ = some (.string V)) (first | exact ⟨z0, z1⟩ | exact ⟨(hb5.cell (by exact hlt2)).trans z0, (hb5.cell (by exact hlt2)).trans z1⟩ | exact ⟨(hK6.var (by omega) (by decide) hx5 0).trans ((hb5.cell (by exact hlt2)).trans z0), (hK6.var (by omega) (by decide) hx5 1).trans ((hb5.cell (by exact hlt2)).trans z1)⟩)
        (first | (go_at_call 61; refine (HESC.out _).mono ?_; rintro e w5 ⟨rfl, hb5⟩; have hx5 := (hb5.block _ (by exact hlt2)).trans HX.out) | (go_at_call 59; refine (writeString_bld R b _ _ _ (HB2.out.keep hb5) (by rw [byteCells_len]; have := HSZ.out; omega)).mono ?_; rintro e w6 ⟨rfl, hB6, hK6⟩))
      have HB6 : Hid (Bld R b (Lib.byteCells (cs ++ (60 :: x.t.name) ++ attsP (l.take (k + 1)))) w6) := by
        have h2 := hB6
        rw [str_cells HAS.out] at h2
        show Bld _ _ _ _
        rw [attsP_snoc hlt, ← List.append_assoc]; exact h2
      have HK6 : Hid (Kept R b w w6) := (HK2.out.trans (Kept.of_below ((belowN (Below.refl _ _) 1).trans hb5) (by omega))).trans hK6
      clear hB6 hK6 hx5 hb5 z0 z1 f1 f2 f3 f4
      go_wp2
      go_round
      case rel => exact ⟨k + 1, hlt, by go_num, HB6.out, HK6.out⟩
      case measure => simp [intOf]; omega
    · obtain rfl : k = l.length := by omega
      have hi1 : ¬ (l.length : Int) < (l.length : Int) := by omega
      rw [List.take_length] at HBk hlen
      clear hB hK
      go_wp2_with fail
      refine (writeString_bld R b _ fin wr HBk.out (by rw [byteCells_len]; omega)).mono ?_
      rintro e w3 ⟨rfl, hB3, hK3⟩
      have HB3 : Hid (Bld R b (Lib.byteCells (cs ++ tagP x.t fin.data.toList)) w3) := by
        have h2 := hB3
        rw [str_cells (data_bs fin).symm] at h2
        show Bld _ _ _ _
        have e1 : cs ++ (60 :: x.t.name) ++ attsP l ++ fin.data.toList = cs ++ tagP x.t fin.data.toList := by
          rw [HL.out]; simp [tagP]
        rw [← e1]; exact h2
      have HK3 := Lib.hid (HKk.out.trans hK3)
      clear hB3 hK3
      go_wp2
      go_end0
      exact ⟨rfl, HB3.out, HK3.out⟩

end Go.Proofs.Ytpchljiiappmnaa

/- Plain law: tokens that were cut of a text, printed, are cut into the same, texts side by side joined; no program in sight. -/
namespace Go.Proofs.Ytpchljiiappmnaa
open Go Go.RowKit

/-! What was cut: names, values, texts. -/
theorem span_take {p : UInt8 → Bool} {l : Bs} : span p (l.take (span p l)) = span p l := by
  induction l with
  | nil => rfl
  | cons c l ih =>
    simp only [span]
    split
    · rename_i h; simp only [List.take_succ_cons, span]; rw [if_pos h, ih]
    · rfl
theorem nameLen_take (l : Bs) : nameLen (l.take (nameLen l)) = nameLen l := by
  cases l with
  | nil => rfl
  | cons c l =>
    simp only [nameLen]
    by_cases h : cFirst c = true
    · rw [if_pos h]
      have hn : cName c = true := by unfold cName; rw [h]; simp
      have h1 : span cName (c :: l) = span cName l + 1 := by simp [span, hn]
      have h2 := span_take (p := cName) (l := c :: l)
      rw [h1] at h2 ⊢
      simp only [List.take_succ_cons] at h2 ⊢
      show (if cFirst c = true then _ else _) = _
      rw [if_pos h]; exact h2
    · rw [if_neg h]; rfl
theorem nameR_good {e : Int} {l nm r : Bs} (h : nameR e l = .ok nm r) : nameLen nm = nm.length ∧ nm ≠ [] := by
  cases l with
  | nil => cases h
  | cons c l =>
    simp only [nameR] at h
    split at h
    · cases h
    · rename_i h0
      cases h
      have h1 := nameLen_take (c :: l)
      have h2 := nameLen_le (c :: l)
      have h3 : ((c :: l).take (nameLen (c :: l))).length = nameLen (c :: l) := by rw [List.length_take]; omega
      refine ⟨by rw [h1, h3], fun e => h0 ?_⟩
      rw [← h3, e]; rfl

theorem text_ge {c : UInt8} (h : 32 ≤ c.toNat) : cText c = true := by unfold cText; simp [h]
theorem ofNat_text {n : Nat} (h : 32 ≤ n % 256) : cText (UInt8.ofNat n) = true := text_ge (by simpa using h)
theorem letterB_text {n : Int} (h : okLetter n = true) : ∀ c ∈ letterB n, cText c = true := by
  unfold okLetter at h
  rw [decide_eq_true_iff] at h
  intro c hc
  unfold letterB letterN at hc
  split at hc
  · rename_i h1
    simp only [List.mem_cons, List.not_mem_nil, or_false] at hc; subst hc
    rcases h with h | h | h | h
    · have : n.toNat = 9 := by omega
      rw [this]; decide
    · have : n.toNat = 10 := by omega
      rw [this]; decide
    · have : n.toNat = 13 := by omega
      rw [this]; decide
    · exact ofNat_text (by omega)
  · rename_i h1
    split at hc
    · simp only [List.mem_cons, List.not_mem_nil, or_false] at hc; rcases hc with rfl | rfl <;> exact ofNat_text (by omega)
    · split at hc
      · simp only [List.mem_cons, List.not_mem_nil, or_false] at hc; rcases hc with rfl | rfl | rfl <;> exact ofNat_text (by omega)
      · simp only [List.mem_cons, List.not_mem_nil, or_false] at hc; rcases hc with rfl | rfl | rfl | rfl <;> exact ofNat_text (by omega)
theorem numRef_text {hex : Bool} {a n : Nat} {l t : Bs} (h : numRef hex a l = .ok t n) : ∀ c ∈ t, cText c = true := by
  unfold numRef at h
  split at h
  · cases h
  split at h
  · cases h
  split at h
  · cases h
  split at h
  · rename_i ho
    cases h; exact letterB_text ho
  · cases h
theorem named_text {w : Bs} {t : UInt8} (h : named w = some t) : cText t = true := by
  unfold named at h
  repeat' split at h
  all_goals first | (cases h; decide) | cases h
theorem refSpec_text {s t : Bs} {n : Nat} (h : refSpec s = .ok t n) : ∀ c ∈ t, cText c = true := by
  cases s with
  | nil => cases h
  | cons c r =>
    simp only [refSpec] at h
    split at h
    · cases h
    · split at h
      · split at h
        · exact numRef_text h
        · exact numRef_text h
      · split at h
        · split at h <;> cases h
        · split at h
          · rename_i t' ht
            split at h
            · cases h
              intro c hc; simp at hc; subst hc; exact named_text ht
            · cases h
          · cases h
theorem letters_text {stop : UInt8} (k : Nat) {l s r : Bs} (h : lettersGo stop k l = .ok s r) : ∀ c ∈ s, cText c = true := by
  induction l generalizing k s with
  | nil => cases k <;> (cases h; simp)
  | cons c l ih =>
    cases k with
    | succ k => exact ih k h
    | zero =>
      simp only [lettersGo] at h
      split at h
      · cases h; simp
      · split at h
        · cases hr : refSpec (c :: l) with
          | bad e => rw [hr] at h; cases h
          | ok t n =>
            rw [hr] at h
            obtain ⟨a, h1, rfl⟩ := map_ok h
            intro x hx
            rcases List.mem_append.1 hx with hx | hx
            · exact refSpec_text hr x hx
            · exact ih _ h1 x hx
        · split at h
          · cases h
          · rename_i hc
            obtain ⟨a, h1, rfl⟩ := map_ok h
            intro x hx
            rcases List.mem_cons.1 hx with rfl | hx
            · simp only [not_or] at hc; simpa using hc.2
            · exact ih _ h1 x hx
theorem valueR_text {l s r : Bs} (h : valueR l = .ok s r) : ∀ c ∈ s, cText c = true := by
  cases l with
  | nil => cases h
  | cons q l =>
    simp only [valueR] at h
    split at h
    · obtain ⟨a, r1, h1, h2⟩ := bind_ok h
      split at h2
      · cases h2
      · cases h2; exact letters_text 0 h1
    · cases h
/-- What stands up to an end is read again as it is, whatever follows. -/
theorem plain_again {til l s r : Bs} (h : plain til l = .ok s r) : (∀ c ∈ s, cText c = true) ∧ l = s ++ til ++ r ∧ ∀ y, plain til (s ++ til ++ y) = .ok s y := by
  induction l generalizing s with
  | nil =>
    simp only [plain] at h
    split at h
    · rename_i ht
      cases h
      have : til = [] := by cases til with
        | nil => rfl
        | cons a b => simp [List.isPrefixOf] at ht
      subst this
      refine ⟨by simp, by simp, fun y => ?_⟩
      cases y <;> simp [plain]
    · cases h
  | cons c l ih =>
    simp only [plain] at h
    split at h
    · rename_i ht
      cases h
      obtain ⟨z, hz⟩ := List.isPrefixOf_iff_prefix.1 ht
      refine ⟨by simp, ?_, fun y => ?_⟩
      · rw [← hz]; simp
      · show plain til (til ++ y) = _
        cases hty : til ++ y with
        | nil =>
          have h1 : til = [] := (List.append_eq_nil_iff.1 hty).1
          have h2 : y = [] := (List.append_eq_nil_iff.1 hty).2
          subst h1; subst h2; rfl
        | cons a b =>
          simp only [plain]
          rw [if_pos (by rw [← hty]; exact List.isPrefixOf_iff_prefix.2 ⟨y, rfl⟩), ← hty, List.drop_left]
    · rename_i ht
      split at h
      · rename_i hc
        obtain ⟨a, h1, rfl⟩ := map_ok h
        obtain ⟨i1, i2, i3⟩ := ih h1
        refine ⟨?_, by rw [i2]; simp, fun y => ?_⟩
        · intro x hx
          rcases List.mem_cons.1 hx with rfl | hx
          · exact hc
          · exact i1 x hx
        · show plain til (c :: (a ++ til ++ y)) = _
          simp only [plain]
          have hp : til.isPrefixOf (c :: (a ++ til ++ y)) = false := by
            rw [i2] at ht
            have e1 : c :: (a ++ til ++ r) = (c :: (a ++ til)) ++ r := by simp
            have e2 : c :: (a ++ til ++ y) = (c :: (a ++ til)) ++ y := by simp
            rw [e1, pre_app (by simp; omega)] at ht
            rw [e2, pre_app (by simp; omega)]
            exact Bool.eq_false_iff.2 ht
          rw [hp, if_neg (by decide), if_pos hc, i3 y]; rfl
      · cases h

/-! Tokens that were cut. -/
theorem attrR_good {acc : List At2} {l r : Bs} {a : At2} (h : attrR acc l = .ok a r) : GoodA a ∧ acc.any (fun b => b.1 == a.1) = false := by
  rw [attrR_eq] at h
  obtain ⟨nm, r1, h1, h2⟩ := bind_ok h
  split at h2
  · cases h2
  · rename_i hn
    unfold restR at h2
    obtain ⟨_, r2, -, h4⟩ := bind_ok h2
    obtain ⟨v, h5, rfl⟩ := map_ok h4
    have hg := nameR_good h1
    exact ⟨⟨hg.1, hg.2, valueR_text h5⟩, Bool.eq_false_iff.2 hn⟩
theorem attrsGo_good (f : Nat) (acc : List At2) (l : Bs) {res : List At2} {r : Bs} (h : attrsGo f acc l = .ok res r) (h1 : ∀ a ∈ acc, GoodA a) (h2 : (acc.map (·.1)).Nodup) : (∀ a ∈ res, GoodA a) ∧ (res.map (·.1)).Nodup := by
  induction f generalizing acc l with
  | zero => cases h
  | succ f ih =>
    simp only [attrsGo] at h
    split at h
    · cases h; exact ⟨h1, h2⟩
    · cases ha : attrR acc (blanks l) with
      | bad e r' => rw [ha] at h; cases h
      | ok a r' =>
        rw [ha] at h
        obtain ⟨g1, g2⟩ := attrR_good ha
        refine ih (acc ++ [a]) r' h ?_ ?_
        · intro b hb
          rcases List.mem_append.1 hb with hb | hb
          · exact h1 b hb
          · simp at hb; subst hb; exact g1
        · rw [List.map_append, List.nodup_append]
          refine ⟨h2, by simp, ?_⟩
          intro x hx y hy e
          simp at hy; subst hy; subst e
          obtain ⟨b, hb, hbe⟩ := List.mem_map.1 hx
          rw [List.any_eq_false] at g2
          exact g2 b hb (by simpa using hbe)

/-- A token as it comes out of a text. -/
inductive GoodT : Bool → Tk → Prop where
  | op (f : Bool) (k : Int) (hk : k = 1 ∨ k = 2) (nm : Bs) (ats : List At2) (h1 : nameLen nm = nm.length) (h2 : nm ≠ []) (h3 : ∀ a ∈ ats, GoodA a) (h4 : (ats.map (·.1)).Nodup) : GoodT f ⟨k, nm, ats, []⟩
  | cl (f : Bool) (nm : Bs) (h1 : nameLen nm = nm.length) (h2 : nm ≠ []) : GoodT f ⟨3, nm, [], []⟩
  | tx (f : Bool) (t : Bs) (h : ∀ c ∈ t, cText c = true) : GoodT f ⟨4, [], [], t⟩
  | no (f : Bool) (t : Bs) (h : ∀ y, plain eNote (t ++ eNote ++ y) = .ok t y) : GoodT f ⟨5, [], [], t⟩
  | he (t : Bs) (h : ∀ y, plain eHead (t ++ eHead ++ y) = .ok t y) (h2 : ∀ y, isHead (sHead ++ (t ++ eHead ++ y)) = true) : GoodT true ⟨6, [], [], t⟩

theorem endR_ok1 {nm : Bs} {ats : List At2} {l r : Bs} {t : Tk} (h : endR nm ats l = .ok t r) : ∃ k : Int, (k = 1 ∨ k = 2) ∧ t = ⟨k, nm, ats, []⟩ := by
  cases l with
  | nil => cases h
  | cons c l =>
    by_cases hc : c = 47
    · subst hc; rw [endR_47] at h; obtain ⟨_, -, rfl⟩ := map_ok h; exact ⟨2, .inr rfl, rfl⟩
    · rw [endR_no nm ats l hc] at h; obtain ⟨_, -, rfl⟩ := map_ok h; exact ⟨1, .inl rfl, rfl⟩
theorem openR_goodT (f : Bool) {l r : Bs} {t : Tk} (h : openR l = .ok t r) : GoodT f t := by
  rw [openR_eq] at h
  obtain ⟨nm, r1, h1, h2⟩ := bind_ok h
  obtain ⟨ats, r2, h3, h4⟩ := bind_ok h2
  obtain ⟨k, hk, rfl⟩ := endR_ok1 h4
  obtain ⟨g1, g2⟩ := attrsGo_good _ [] _ h3 (by simp) (by simp)
  exact .op f k hk nm ats (nameR_good h1).1 (nameR_good h1).2 g1 g2
theorem head_again {l t r : Bs} (hh : isHead l = true) (h : l.drop 5 = t ++ eHead ++ r) (y : Bs) : isHead (sHead ++ (t ++ eHead ++ y)) = true := by
  unfold isHead at hh ⊢
  rw [Bool.and_eq_true] at hh
  obtain ⟨h1, h2⟩ := hh
  have e0 : sHead.isPrefixOf (sHead ++ (t ++ eHead ++ y)) = true := List.isPrefixOf_iff_prefix.2 ⟨_, rfl⟩
  rw [e0, Bool.true_and]
  have e1 : l[5]? = (t ++ eHead ++ r)[0]? := by rw [← h, List.getElem?_drop]
  have e2 : (sHead ++ (t ++ eHead ++ y))[5]? = (t ++ eHead ++ y)[0]? := by
    rw [List.getElem?_append_right (by simp [sHead])]; rfl
  have e3 : (t ++ eHead ++ y)[0]? = (t ++ eHead ++ r)[0]? := by cases t <;> rfl
  rw [e2, e3, ← e1]; exact h2
theorem tokenR_goodT {f : Bool} {l r : Bs} {t : Tk} (h : tokenR f l = .ok t r) : GoodT f t := by
  unfold tokenR at h
  split at h
  · obtain ⟨s, h1, rfl⟩ := map_ok h; exact .no f s (plain_again h1).2.2
  · split at h
    · obtain ⟨s, h1, rfl⟩ := map_ok h; exact .tx f s (plain_again h1).1
    · split at h
      · rename_i hh
        obtain ⟨s, h1, rfl⟩ := map_ok h
        rw [Bool.and_eq_true] at hh
        obtain ⟨rfl, hh⟩ := hh
        obtain ⟨-, g2, g3⟩ := plain_again h1
        exact .he s g3 (fun y => head_again hh g2 y)
      · split at h
        · obtain ⟨nm, r1, h1, h2⟩ := bind_ok h
          obtain ⟨_, -, rfl⟩ := map_ok h2
          exact .cl f nm (nameR_good h1).1 (nameR_good h1).2
        · exact openR_goodT f h
        · obtain ⟨s, h1, rfl⟩ := map_ok h; exact .tx f s (letters_text 0 h1)

def GoodL : Bool → List Tk → Prop
  | _, [] => True
  | f, t :: l => GoodT f t ∧ GoodL false l
theorem allGo_goodL (n : Nat) (f : Bool) (acc : List (Tk × Bs)) (l : Bs) {res : List (Tk × Bs)} {r : Bs} (h : allGo n f acc l = .ok res r) : ∃ more, res = acc ++ more ∧ GoodL f (more.map (·.1)) := by
  induction n generalizing f acc l with
  | zero => cases l with
    | nil => cases h; exact ⟨[], by simp, trivial⟩
    | cons c l => cases h
  | succ n ih =>
    cases l with
    | nil => cases h; exact ⟨[], by simp, trivial⟩
    | cons c l =>
      simp only [allGo] at h
      cases ht : tokenR f (c :: l) with
      | bad e r' => rw [ht] at h; cases h
      | ok t r' =>
        rw [ht] at h
        obtain ⟨more, e1, e2⟩ := ih false _ r' h
        exact ⟨(t, c :: l) :: more, by rw [e1]; simp, tokenR_goodT ht, e2⟩

/-! Printed, and cut again. -/
theorem attrsGo_p (tail : Bs) (ht : ∃ c y, tail = c :: y ∧ (c = 62 ∨ c = 47)) (l : List At2) : ∀ f acc, l.length < f → (∀ a ∈ l, GoodA a) → ((acc ++ l).map (·.1)).Nodup → attrsGo f acc (attsP l ++ tail) = .ok (acc ++ l) tail := by
  induction l with
  | nil =>
    intro f acc hf _ _
    obtain ⟨f, rfl⟩ : ∃ g, f = g + 1 := ⟨f - 1, by simp at hf; omega⟩
    obtain ⟨c, y, rfl, hc⟩ := ht
    have hb : blanks (c :: y) = c :: y := by rcases hc with rfl | rfl <;> simp [blanks, cBlank]
    have he : tagEnds (c :: y) = true := by unfold tagEnds; rw [hb]; simp
    show attrsGo (f + 1) acc (c :: y) = _
    simp only [attrsGo]
    rw [if_pos he, hb, List.append_nil]
  | cons a l ih =>
    intro f acc hf hg hn
    obtain ⟨f, rfl⟩ : ∃ g, f = g + 1 := ⟨f - 1, by simp at hf; omega⟩
    have ha := hg a (by simp)
    obtain ⟨h1, h2⟩ := attT_tail false a ha (attsP l ++ tail)
    have hany : acc.any (fun b => b.1 == a.1) = false := by
      rw [List.any_eq_false]
      intro b hb e
      rw [List.map_append, List.nodup_append] at hn
      exact hn.2.2 b.1 (List.mem_map.2 ⟨b, hb, rfl⟩) a.1 (by simp) (by simpa using e)
    show attrsGo (f + 1) acc ((attT false a ++ attsP l) ++ tail) = _
    rw [List.append_assoc]
    simp only [attrsGo]
    rw [h2, if_neg (by decide), h1, attrR_t acc false a _ ha hany]
    show attrsGo f (acc ++ [a]) (attsP l ++ tail) = _
    rw [ih f (acc ++ [a]) (by simp at hf; omega) (fun x hx => hg x (by simp [hx])) (by simpa using hn)]
    simp
theorem attsP_ge (l : List At2) : l.length ≤ (attsP l).length := by
  induction l with
  | nil => exact Nat.le_refl _
  | cons p l ih =>
    show _ ≤ (attT false p ++ attsP l).length
    rw [List.length_append]
    have : 1 ≤ (attT false p).length := by unfold attT; simp
    simp; omega

theorem attsP_head (l : List At2) (c : UInt8) (y : Bs) (hc : cName c = false) : ∃ d r, attsP l ++ c :: y = d :: r ∧ cName d = false := by
  cases l with
  | nil => exact ⟨c, y, rfl, hc⟩
  | cons a l => exact ⟨32, (attT false a).tail ++ (attsP l ++ c :: y), by show (attT false a ++ attsP l) ++ c :: y = _; rw [List.append_assoc]; rfl, by decide⟩

theorem GoodT.again {f : Bool} {t : Tk} (h : GoodT f t) (hk : t.kind ≠ 4) (y : Bs) : tokenR f (tokP t ++ y) = .ok t y ∧ ∃ r, tokP t = 60 :: r := by
  cases h with
  | op f k hk' nm ats h1 h2 h3 h4 =>
    obtain ⟨x, m, hx, hf⟩ := name_first h1 h2
    obtain ⟨-, h47, -, h33, h63⟩ := first_blank hf
    have gen : ∀ fin : Bs, (∃ c y', fin ++ y = c :: y' ∧ (c = 62 ∨ c = 47)) → tokenR f (tagP ⟨k, nm, ats, []⟩ fin ++ y) = endR nm ats (fin ++ y) := by
      rintro fin ⟨c, y', hc, hcc⟩
      obtain ⟨d, r, hd, hdn⟩ := attsP_head ats c y' (by rcases hcc with rfl | rfl <;> decide)
      have e1 : tagP ⟨k, nm, ats, []⟩ fin ++ y = 60 :: x :: (m ++ (attsP ats ++ (fin ++ y))) := by unfold tagP; rw [hx]; simp
      rw [e1, tokS_open f _ h33 h63 h47, openR_eq, show x :: (m ++ (attsP ats ++ (fin ++ y))) = nm ++ d :: r by rw [hc, hd, hx]; rfl, nameR_all h1 h2 hdn]
      show (attrsR (d :: r)).bind _ = _
      rw [← hd, ← hc]
      unfold attrsR
      rw [attrsGo_p (fin ++ y) ⟨c, y', hc, hcc⟩ ats _ [] (by have := attsP_ge ats; rw [List.length_append]; omega) h3 (by simpa using h4)]
      rfl
    rcases hk' with rfl | rfl
    · have e0 : tokP ⟨1, nm, ats, []⟩ = tagP ⟨1, nm, ats, []⟩ [62] := by unfold tokP; rw [if_neg (by simp), if_neg (by simp), if_neg (by simp), if_pos rfl]
      refine ⟨?_, ⟨_, by rw [e0]; rfl⟩⟩
      rw [e0, gen [62] ⟨62, y, rfl, .inl rfl⟩]; rfl
    · have e0 : tokP ⟨2, nm, ats, []⟩ = tagP ⟨2, nm, ats, []⟩ [47, 62] := by unfold tokP; rw [if_neg (by simp), if_neg (by simp), if_neg (by simp), if_neg (by simp), if_pos rfl]
      refine ⟨?_, ⟨_, by rw [e0]; rfl⟩⟩
      rw [e0, gen [47, 62] ⟨47, 62 :: y, rfl, .inr rfl⟩]; rfl
  | cl f nm h1 h2 =>
    have e0 : tokP ⟨3, nm, [], []⟩ = 60 :: 47 :: (nm ++ [62]) := by unfold tokP; rw [if_neg (by simp), if_neg (by simp), if_pos rfl]; rfl
    refine ⟨?_, ⟨_, e0⟩⟩
    rw [e0, show (60 :: 47 :: (nm ++ [62])) ++ y = 60 :: 47 :: (nm ++ 62 :: y) by simp, tokS_47]
    unfold closeR
    rw [nameR_all h1 h2 (by decide)]
    simp only [Res.bind]
    rw [show blanks (62 :: y) = 62 :: y by simp [blanks, cBlank]]
    rfl
  | tx f t h => exact absurd rfl hk
  | no f t h =>
    have e0 : tokP ⟨5, [], [], t⟩ = sNote ++ (t ++ eNote) := by unfold tokP; rw [if_pos rfl]
    refine ⟨?_, ⟨_, by rw [e0]; rfl⟩⟩
    rw [e0]
    unfold tokenR
    rw [if_pos (by rw [List.append_assoc]; exact List.isPrefixOf_iff_prefix.2 ⟨_, rfl⟩)]
    rw [show (sNote ++ (t ++ eNote) ++ y).drop 4 = t ++ eNote ++ y by rw [List.append_assoc]; rfl, h y]; rfl
  | he t h h2 =>
    have e0 : tokP ⟨6, [], [], t⟩ = sHead ++ (t ++ eHead) := by unfold tokP; rw [if_neg (by simp), if_pos rfl]
    refine ⟨?_, ⟨_, by rw [e0]; rfl⟩⟩
    rw [e0, List.append_assoc]
    have h3 := h2 y
    unfold tokenR
    rw [if_neg (by simp [sNote, sHead, List.isPrefixOf]), if_neg (by simp [sData, sHead, List.isPrefixOf]), if_pos (by rw [h3]; rfl)]
    rw [show (sHead ++ (t ++ eHead ++ y)).drop 5 = t ++ eHead ++ y from rfl, h y]; rfl

theorem text_again {f : Bool} {t : Bs} (h : ∀ c ∈ t, cText c = true) (hne : t ≠ []) {y : Bs} (hy : y = [] ∨ ∃ r, y = 60 :: r) : tokenR f (esc false t ++ y) = .ok ⟨4, [], [], t⟩ y := by
  have hh : (esc false t ++ y).head? ≠ some 60 := by
    have h1 := esc_head false t
    have h2 := esc_ne false hne
    cases he : esc false t with
    | nil => exact absurd he h2
    | cons a b => rw [he] at h1; simpa using h1
  rw [tokenR_text f hh]
  rcases hy with rfl | ⟨r, rfl⟩
  · rw [List.append_nil, letters_reads_end (reads_escs (by decide) (.inl rfl) t h)]; rfl
  · rw [letters_reads (reads_escs (by decide) (.inl rfl) t h) r]; rfl

/-! Texts side by side are joined. -/
def joinGo (out : List Tk) : List Tk → List Tk
  | [] => out
  | t :: l =>
    if t.kind = 4 ∧ t.text = [] then joinGo out l
    else match out.getLast? with
      | some u => if t.kind = 4 ∧ u.kind = 4 then joinGo (out.dropLast ++ [{ u with text := u.text ++ t.text }]) l else joinGo (out ++ [t]) l
      | none => joinGo (out ++ [t]) l
def joined (l : List Tk) : List Tk := joinGo [] l

theorem tokP_4 {t : Tk} (h : t.kind = 4) : tokP t = esc false t.text := by
  unfold tokP; rw [h]; simp
theorem printP_app (l m : List Tk) : printP (l ++ m) = printP l ++ printP m := by unfold printP; rw [List.flatMap_append]
theorem printP_one (t : Tk) : printP [t] = tokP t := by simp [printP]
theorem joinGo_print (out l : List Tk) : printP (joinGo out l) = printP out ++ printP l := by
  induction l generalizing out with
  | nil => simp [joinGo, printP]
  | cons t l ih =>
    have hc : printP (t :: l) = tokP t ++ printP l := rfl
    simp only [joinGo]
    split
    · rename_i h
      rw [ih, hc, tokP_4 h.1, h.2]; rfl
    · split
      · rename_i u hu
        split
        · rename_i h
          have hou : out = out.dropLast ++ [u] := by
            have hne : out ≠ [] := fun e => by rw [e] at hu; cases hu
            rw [List.getLast?_eq_some_getLast hne] at hu
            cases hu
            exact (List.dropLast_concat_getLast hne).symm
          rw [ih, printP_app, printP_one, tokP_4 (by exact h.2), hc, tokP_4 h.1]
          conv => rhs; rw [hou]
          rw [printP_app, printP_one, tokP_4 h.2]
          show _ ++ esc false (u.text ++ t.text) ++ _ = _
          unfold esc
          rw [List.flatMap_append]; simp
        · rw [ih, printP_app, printP_one, hc]; simp
      · rw [ih, printP_app, printP_one, hc]; simp

/-- A list as it comes out of joining: no empty text, no two texts side by side. -/
def Alt : Bool → List Tk → Prop
  | _, [] => True
  | f, t :: l => GoodT f t ∧ (t.kind = 4 → t.text ≠ [] ∧ ∀ u r, l = u :: r → u.kind ≠ 4) ∧ Alt false l
theorem GoodT.more {t : Tk} (h : GoodT false t) : GoodT true t := by
  cases h with
  | op f k hk nm ats h1 h2 h3 h4 => exact .op _ k hk nm ats h1 h2 h3 h4
  | cl f nm h1 h2 => exact .cl _ nm h1 h2
  | tx f t h => exact .tx _ t h
  | no f t h => exact .no _ t h
theorem GoodT.text {f : Bool} {t : Tk} (h : GoodT f t) (hk : t.kind = 4) : t = ⟨4, [], [], t.text⟩ ∧ ∀ c ∈ t.text, cText c = true := by
  cases h with
  | op f k hk' nm ats h1 h2 h3 h4 => rcases hk' with rfl | rfl <;> cases hk
  | cl f nm h1 h2 => cases hk
  | tx f t h => exact ⟨rfl, h⟩
  | no f t h => cases hk
  | he t h h2 => cases hk
theorem Alt.snoc {f : Bool} {out : List Tk} {t : Tk} (h : Alt f out) (ht : GoodT (if out = [] then f else false) t) (h4 : t.kind = 4 → t.text ≠ [] ∧ ∀ u, out.getLast? = some u → u.kind ≠ 4) : Alt f (out ++ [t]) := by
  induction out generalizing f with
  | nil => exact ⟨by simpa using ht, fun hk => ⟨(h4 hk).1, fun u r e => by cases e⟩, trivial⟩
  | cons v out ih =>
    obtain ⟨g1, g2, g3⟩ := h
    have ht' : GoodT false t := by simpa using ht
    refine ⟨g1, fun hk => ?_, ih g3 (by split <;> exact ht') (fun hk => ⟨(h4 hk).1, fun u hu => (h4 hk).2 u ?_⟩)⟩
    · refine ⟨(g2 hk).1, fun u r e => ?_⟩
      cases out with
      | nil =>
        simp at e
        obtain ⟨rfl, -⟩ := e
        intro hk2
        exact (h4 hk2).2 v rfl hk
      | cons z out =>
        simp at e
        exact (g2 hk).2 u out (by rw [e.1])
    · cases out with
      | nil => cases hu
      | cons z out => simpa using hu
theorem Alt.last {f : Bool} {out : List Tk} {u : Tk} {s : Bs} (h : Alt f out) (hu : out.getLast? = some u) (hk : u.kind = 4) (hs : ∀ c ∈ s, cText c = true) : Alt f (out.dropLast ++ [{ u with text := u.text ++ s }]) := by
  induction out generalizing f with
  | nil => cases hu
  | cons v out ih =>
    obtain ⟨g1, g2, g3⟩ := h
    cases out with
    | nil =>
      simp at hu; subst hu
      obtain ⟨e, ht⟩ := g1.text hk
      refine ⟨?_, fun _ => ⟨?_, fun u r e => by cases e⟩, trivial⟩
      · rw [e]
        exact .tx f _ (fun c hc => by
          rcases List.mem_append.1 hc with hc | hc
          · exact ht c hc
          · exact hs c hc)
      · intro e2
        exact (g2 hk).1 (List.append_eq_nil_iff.1 e2).1
    | cons z out =>
      have hu' : (z :: out).getLast? = some u := by simpa using hu
      have hi := ih g3 hu'
      refine ⟨g1, fun hkv => ⟨(g2 hkv).1, fun w r e => ?_⟩, hi⟩
      have hz := (g2 hkv).2 z out rfl
      cases out with
      | nil =>
        simp at hu'; subst hu'
        exact absurd hk hz
      | cons y out =>
        simp at e
        rw [← e.1]; exact hz
theorem joinGo_alt (f : Bool) (out l : List Tk) (h : Alt f out) (hl : GoodL (if out = [] then f else false) l) : Alt f (joinGo out l) := by
  induction l generalizing out with
  | nil => exact h
  | cons t l ih =>
    obtain ⟨g1, g2⟩ := hl
    have weak : ∀ (b : Bool) (m : List Tk), GoodL false m → GoodL b m := fun b m hm => by
      cases m with
      | nil => trivial
      | cons x m => exact ⟨by cases b; exact hm.1; exact hm.1.more, hm.2⟩
    simp only [joinGo]
    split
    · exact ih out h (weak _ l g2)
    · rename_i hne
      have hnx : t.kind = 4 → t.text ≠ [] := fun hk e => hne ⟨hk, e⟩
      split
      · rename_i u hu
        split
        · rename_i hk
          exact ih _ (h.last hu hk.2 (g1.text hk.1).2) (by rw [if_neg (by simp)]; exact g2)
        · rename_i hk
          refine ih _ (h.snoc g1 fun hk4 => ⟨hnx hk4, fun u' hu' hk' => hk ⟨hk4, ?_⟩⟩) (by rw [if_neg (by simp)]; exact g2)
          rw [hu] at hu'; cases hu'; exact hk'
      · rename_i hu
        refine ih _ (h.snoc g1 fun hk4 => ⟨hnx hk4, fun u' hu' => ?_⟩) (by rw [if_neg (by simp)]; exact g2)
        rw [hu] at hu'; cases hu'

theorem tokP_ne {f : Bool} {t : Tk} (h : GoodT f t) (h4 : t.kind = 4 → t.text ≠ []) : tokP t ≠ [] := by
  by_cases hk : t.kind = 4
  · rw [tokP_4 hk]; exact esc_ne false (h4 hk)
  · obtain ⟨-, r, hr⟩ := h.again hk []
    rw [hr]; simp
theorem alt_all (l : List Tk) : ∀ n f acc, Alt f l → (printP l).length ≤ n → ∃ more, allGo n f acc (printP l) = .ok (acc ++ more) [] ∧ more.map (·.1) = l := by
  induction l with
  | nil => intro n f acc _ _; exact ⟨[], by rw [show printP [] = [] from rfl, allGo_nil]; simp, rfl⟩
  | cons t l ih =>
    intro n f acc h hn
    obtain ⟨g1, g2, g3⟩ := h
    have hc : printP (t :: l) = tokP t ++ printP l := rfl
    have hne := tokP_ne g1 (fun hk => (g2 hk).1)
    have hlen : 1 ≤ (tokP t).length := List.length_pos_iff.2 hne
    rw [hc, List.length_append] at hn
    obtain ⟨n, rfl⟩ : ∃ m, n = m + 1 := ⟨n - 1, by omega⟩
    have h1 : tokenR f (tokP t ++ printP l) = .ok t (printP l) := by
      by_cases hk : t.kind = 4
      · obtain ⟨e, ht⟩ := g1.text hk
        rw [tokP_4 hk]
        have := text_again (f := f) ht (g2 hk).1 (y := printP l) (by
          cases l with
          | nil => exact .inl rfl
          | cons u r =>
            right
            obtain ⟨-, z, hz⟩ := g3.1.again ((g2 hk).2 u r rfl) []
            exact ⟨z ++ printP r, by show tokP u ++ printP r = _; rw [hz]; rfl⟩)
        rw [this, ← e]
      · exact (g1.again hk _).1
    obtain ⟨more, e1, e2⟩ := ih n false (acc ++ [(t, tokP t ++ printP l)]) g3 (by omega)
    refine ⟨(t, tokP t ++ printP l) :: more, ?_, by rw [List.map_cons, e2]⟩
    rw [hc, allGo_step (by intro e; exact hne (List.append_eq_nil_iff.1 e).1) h1, e1]; simp

/-- The law of TokenBack. -/
theorem back_all {T : Bs} {acc : List (Tk × Bs)} {r : Bs} (h : allR T = .ok acc r) : ∃ more, allR (printP (acc.map (·.1))) = .ok more [] ∧ more.map (·.1) = joined (acc.map (·.1)) ∧ printP (joined (acc.map (·.1))) = printP (acc.map (·.1)) := by
  obtain ⟨more, e1, hg⟩ := allGo_goodL _ true [] T h
  rw [List.nil_append] at e1
  subst e1
  have hp : printP (joined (acc.map (·.1))) = printP (acc.map (·.1)) := by unfold joined; rw [joinGo_print]; rfl
  have ha : Alt true (joined (acc.map (·.1))) := joinGo_alt true [] _ trivial hg
  obtain ⟨m, h1, h2⟩ := alt_all _ (printP (joined (acc.map (·.1)))).length true [] ha (Nat.le_refl _)
  refine ⟨m, ?_, h2, hp⟩
  unfold allR
  rw [← hp, h1, List.nil_append]

end Go.Proofs.Ytpchljiiappmnaa
