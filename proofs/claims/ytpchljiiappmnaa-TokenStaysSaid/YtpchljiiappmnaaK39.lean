/- Plain laws of TokenStays: where an error stands, and what is cut off behind it; no program in sight. -/
import Derived.Test.YtpchljiiappmnaaK38
import Derived.Test.YtpchljiiappmnaaK36
namespace Go.Proofs.Ytpchljiiappmnaa
open Go Go.RowKit

/-- An error stands at a byte, but for that of the end. -/
def Res.NE {α : Type} : Res α → Prop
  | .ok _ _ => True
  | .bad e r => e = 13 ∨ r ≠ []
theorem Res.NE.map {α β : Type} {x : Res α} (f : α → β) (h : x.NE) : (x.map f).NE := by cases x <;> exact h
theorem Res.NE.bind {α β : Type} {x : Res α} {f : α → Bs → Res β} (h : x.NE) (hf : ∀ a r, (f a r).NE) : (x.bind f).NE := by
  cases x with
  | ok a r => exact hf a r
  | bad e r => exact h
theorem wantC_ne (c : UInt8) (l : Bs) : (wantC c l).NE := by
  cases l with
  | nil => exact .inl rfl
  | cons x l => simp only [wantC]; split; trivial; exact .inr (by simp)
theorem nameR_ne (e : Int) (l : Bs) : (nameR e l).NE := by
  cases l with
  | nil => exact .inl rfl
  | cons x l => simp only [nameR]; split; exact .inr (by simp); trivial
theorem plain_ne (til l : Bs) : (plain til l).NE := by
  induction l with
  | nil => simp only [plain]; split; trivial; exact .inl rfl
  | cons c l ih =>
    simp only [plain]
    split
    · trivial
    · split
      · exact ih.map _
      · exact .inr (by simp)
theorem lettersGo_ne (stop : UInt8) (k : Nat) (l : Bs) : (lettersGo stop k l).NE := by
  induction l generalizing k with
  | nil => cases k <;> trivial
  | cons c l ih =>
    cases k with
    | succ k => exact ih k
    | zero =>
      simp only [lettersGo]
      split
      · trivial
      · split
        · cases hr : refSpec (c :: l) with
          | ok t n => exact (ih _).map _
          | bad e => exact .inr (by simp)
        · split
          · exact .inr (by simp)
          · exact (ih 0).map _
theorem valueR_ne (l : Bs) : (valueR l).NE := by
  cases l with
  | nil => exact .inl rfl
  | cons q l =>
    simp only [valueR]
    split
    · refine Res.NE.bind (lettersGo_ne q 0 l) fun s r => ?_
      cases r with
      | nil => exact .inl rfl
      | cons x r => trivial
    · exact .inr (by simp)
theorem attrR_ne (acc : List At2) (l : Bs) : (attrR acc l).NE := by
  cases l with
  | nil => exact .inl rfl
  | cons c l =>
    refine Res.NE.bind (nameR_ne 10 _) fun nm r => ?_
    split
    · exact .inr (by simp)
    · exact Res.NE.bind (wantC_ne _ _) fun _ r' => (valueR_ne _).map _
theorem attrsGo_ne (f : Nat) (acc : List At2) (l : Bs) : (attrsGo f acc l).NE := by
  induction f generalizing acc l with
  | zero => exact .inl rfl
  | succ f ih =>
    simp only [attrsGo]
    split
    · trivial
    · have := attrR_ne acc (blanks l)
      cases h : attrR acc (blanks l) with
      | ok a r => exact ih _ r
      | bad e r => rw [h] at this; exact this
theorem tokenR_ne (first : Bool) (l : Bs) : (tokenR first l).NE := by
  unfold tokenR
  split
  · exact (plain_ne _ _).map _
  · split
    · exact (plain_ne _ _).map _
    · split
      · exact (plain_ne _ _).map _
      · split
        · exact Res.NE.bind (nameR_ne _ _) fun _ r => (wantC_ne _ _).map _
        · refine Res.NE.bind (nameR_ne _ _) fun nm r => Res.NE.bind (attrsGo_ne _ _ r) fun ats r' => ?_
          split
          · exact (wantC_ne _ _).map _
          · exact (wantC_ne _ _).map _
        · exact (lettersGo_ne _ _ _).map _
theorem allGo_ne (f : Nat) (first : Bool) (acc : List (Tk × Bs)) (l : Bs) : (allGo f first acc l).NE := by
  induction f generalizing first acc l with
  | zero =>
    cases l with
    | nil => trivial
    | cons c l => exact .inl rfl
  | succ f ih =>
    cases l with
    | nil => trivial
    | cons c l =>
      simp only [allGo]
      have := tokenR_ne first (c :: l)
      cases h : tokenR first (c :: l) with
      | ok t r => exact ih _ _ r
      | bad e r => rw [h] at this; exact this
theorem allR_badAt {T : Bs} {x : Int} {r : Bs} (h : allR T = .bad x r) (hx : x ≠ 13) : ∃ c r', r = c :: r' := by
  have := allGo_ne T.length true [] T
  unfold allR at h
  rw [h] at this
  rcases this with e | e
  · exact absurd e hx
  · cases r with
    | nil => exact absurd rfl e
    | cons c r => exact ⟨c, r, rfl⟩
theorem allR_badSuf {T : Bs} {x : Int} {r : Bs} (h : allR T = .bad x r) : r <:+ T := allGo_badSuf _ _ _ _ h

/-- What the law says of the text that is cut and goes on otherwise. -/
structure StaysAt (s t : S) (x : Int) (r : Bs) (en : Nat) (v : Bs) : Prop where
  all : allR (s.extract 0 en ++ t).data.toList = .bad x v
  pos : pos (s.extract 0 en ++ t) v = pos s r
  take : (s.extract 0 en ++ t).data.toList.take (Go.Proofs.Ytpchljiiappmnaa.pos s r) = s.data.toList.take (Go.Proofs.Ytpchljiiappmnaa.pos s r)
theorem ext_data (s t : S) (en : Nat) : (s.extract 0 en ++ t).data.toList = s.data.toList.take en ++ t.data.toList := by
  rw [← data_bs (s.extract 0 en), Lib.extract_data, ← data_bs t, bs_append, bs_data, bs_data]; simp
theorem stays_at (s t : S) {x : Int} {c : UInt8} {r' : Bs} (he : Bad3 x) (h : allR s.data.toList = .bad x (c :: r')) (h33 : c ≠ 33) (h63 : c ≠ 63) {en : Nat} (hen : pos s (c :: r') + nameLen (c :: r') < en) (hle : en ≤ s.size) :
    ∃ v, StaysAt s t x (c :: r') en v := by
  have hsuf := allR_badSuf h
  have hp := pos_add hsuf
  have hd := pos_drop hsuf
  have hT : s.data.toList = s.data.toList.take en ++ s.data.toList.drop en := (List.take_append_drop en _).symm
  have hr : c :: r' = (c :: r').take (en - pos s (c :: r')) ++ s.data.toList.drop en := by
    have e1 : s.data.toList.drop en = (c :: r').drop (en - pos s (c :: r')) := by
      have := congrArg (List.drop (en - pos s (c :: r'))) hd
      rw [List.drop_drop] at this
      rw [← this]; congr 1; omega
    rw [e1, List.take_append_drop]
  have hvl : ((c :: r').take (en - pos s (c :: r'))).length = en - pos s (c :: r') := by rw [List.length_take]; omega
  obtain ⟨k, hk⟩ : ∃ k, en - pos s (c :: r') = k + 1 := ⟨en - pos s (c :: r') - 1, by omega⟩
  have hG : Good ((c :: r').take (en - pos s (c :: r'))) (s.data.toList.drop en) := by
    refine ⟨?_, ?_, ?_, ?_⟩
    · rw [hk]; simp
    · rw [hk]; simpa using h33
    · rw [hk]; simpa using h63
    · rw [← hr, hvl]; omega
  have h2 : allR (s.data.toList.take en ++ s.data.toList.drop en) = .bad x ((c :: r').take (en - pos s (c :: r')) ++ s.data.toList.drop en) := by
    rw [← hT, ← hr]; exact h
  have h3 := allR_stay he hG h2 t.data.toList
  refine ⟨(c :: r').take (en - pos s (c :: r')) ++ t.data.toList, ?_, ?_, ?_⟩
  · rw [ext_data]; exact h3
  · have e2 : (s.extract 0 en ++ t).size = en + t.size := by
      rw [← size_data, ext_data, List.length_append, List.length_take, size_data, size_data]; omega
    show (s.extract 0 en ++ t).size - _ = _
    rw [e2, List.length_append, hvl, size_data]; omega
  · rw [ext_data, List.take_append_of_le_length (by rw [List.length_take, size_data]; omega), List.take_take]
    congr 1; omega

end Go.Proofs.Ytpchljiiappmnaa
