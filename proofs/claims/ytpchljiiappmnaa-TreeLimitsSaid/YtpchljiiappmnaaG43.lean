/- Elements within one another, and side by side, up to their limits; no program in sight. -/
import Derived.Test.YtpchljiiappmnaaG41
import Derived.Test.YtpchljiiappmnaaG16
import Derived.Test.YtpchljiiappmnaaG21
import Derived.Test.YtpchljiiappmnaaG23
import Derived.Deep.CutRange
import Derived.Deep.CutBlock
import Derived.Lib.SlBytesConst
import Derived.ArgAppend
import Derived.Lib.AppendStr
namespace Go.Proofs.Ytpchljiiappmnaa
open Go Go.RowKit

/-- Tokens, each with what stands from it on. -/
def withPos : List Tk → List (Tk × Bs)
  | [] => []
  | t :: l => (t, printP (t :: l)) :: withPos l
theorem alt_pos (l : List Tk) : ∀ n f acc, Alt f l → (printP l).length ≤ n → allGo n f acc (printP l) = .ok (acc ++ withPos l) [] := by
  induction l with
  | nil => intro n f acc _ _; rw [show printP [] = [] from rfl, allGo_nil]; simp [withPos]
  | cons t l ih =>
    intro n f acc h hn
    obtain ⟨g1, g2, g3⟩ := h
    have hc : printP (t :: l) = tokP t ++ printP l := rfl
    have hne := tokP_ne g1 (fun hk => (g2 hk).1)
    have hlen : 1 ≤ (tokP t).length := List.length_pos_iff.2 hne
    rw [hc, List.length_append] at hn
    obtain ⟨n, rfl⟩ : ∃ m, n = m + 1 := ⟨n - 1, by omega⟩
    have h1 : tokenR f (tokP t ++ printP l) = .ok t (printP l) := by
      by_cases hk : t.kind = 4
      · obtain ⟨e, ht⟩ := g1.text hk
        rw [tokP_4 hk]
        have := text_again (f := f) ht (g2 hk).1 (y := printP l) (by
          cases l with
          | nil => exact .inl rfl
          | cons u r =>
            right
            obtain ⟨-, z, hz⟩ := g3.1.again ((g2 hk).2 u r rfl) []
            exact ⟨z ++ printP r, by show tokP u ++ printP r = _; rw [hz]; rfl⟩)
        rw [this, ← e]
      · exact (g1.again hk _).1
    have h2 := ih n false (acc ++ [(t, tokP t ++ printP l)]) g3 (by omega)
    rw [hc, allGo_step (by intro e; exact hne (List.append_eq_nil_iff.1 e).1) h1, h2, List.append_assoc]
    rfl
theorem allR_pos {l : List Tk} (h : Alt true l) : allR (printP l) = .ok (withPos l) [] := by
  unfold allR
  rw [alt_pos l _ true [] h (Nat.le_refl _), List.nil_append]

def tkA : Tk := ⟨1, [97], [], []⟩
def tkE : Tk := ⟨3, [97], [], []⟩
def tkB : Tk := ⟨2, [98], [], []⟩
def tkX : Tk := ⟨4, [], [], [120]⟩
theorem goodA (f : Bool) : GoodT f tkA := .op f 1 (.inl rfl) [97] [] rfl (by simp) (by simp) (by simp)
theorem goodB (f : Bool) : GoodT f tkB := .op f 2 (.inr rfl) [98] [] rfl (by simp) (by simp) (by simp)
theorem goodC (f : Bool) : GoodT f tkE := .cl f [97] rfl (by simp)
theorem goodX (f : Bool) : GoodT f tkX := .tx f [120] (by intro c hc; simp at hc; subst hc; rfl)
theorem alt_rep {T : Tk} (hT : ∀ f, GoodT f T) (h4 : T.kind ≠ 4) {rest : List Tk} (hr : ∀ f, Alt f rest) : ∀ (n : Nat) (f : Bool), Alt f (List.replicate n T ++ rest)
  | 0, f => hr f
  | n + 1, f => ⟨hT f, fun h => absurd h h4, alt_rep hT h4 hr n false⟩
theorem alt_C (n : Nat) (f : Bool) : Alt f (List.replicate n tkE) := by
  have := alt_rep goodC (show (3 : Int) ≠ 4 by decide) (rest := []) (fun _ => trivial) n f
  rwa [List.append_nil] at this

def frA (ks : List Tr) : Fr := ⟨[97], [], ks⟩
def nestT : Nat → Tr
  | 0 => .mk [97] [] [] []
  | n + 1 => .mk [97] [] [nestT n] []
theorem nest_dep : ∀ n, (nestT n).dep = n + 1
  | 0 => by rw [nestT, Tr.dep, Tr.depL]
  | n + 1 => by
    rw [nestT, Tr.dep, Tr.depL, Tr.depL, nest_dep n]
    have : (nestT n).name ≠ [] := by cases n <;> simp [nestT, Tr.name]
    rw [if_neg this]; omega
theorem nest_cnt : ∀ n, (nestT n).cnt = n + 1
  | 0 => by rw [nestT, Tr.cnt, Tr.cntL]
  | n + 1 => by rw [nestT, Tr.cnt, Tr.cntL, Tr.cntL, nest_cnt n]; omega
def kidsN : Nat → List Tr
  | 0 => []
  | n + 1 => [nestT n]
theorem frA_tree (j : Nat) : (frA (kidsN j)).tree = nestT j := by cases j <;> rfl

theorem step_A {S : List Fr} {c : Nat} (h1 : S.length < 64) (h2 : c < 4096) (tx : Bool) : stepB ⟨S, none, c, tx⟩ tkA = .ok ⟨frA [] :: S, none, c + 1, false⟩ := by
  unfold stepB tkA
  rw [if_neg (show ¬ (1 : Int) = 4 by decide), if_pos rfl]
  unfold beginB
  rw [if_neg (by simp), if_neg (by simp; omega), if_neg (by simp; omega)]
  rfl
theorem step_A_bad {S : List Fr} {c : Nat} (h1 : 64 ≤ S.length) (tx : Bool) : stepB ⟨S, none, c, tx⟩ tkA = .bad 2 := by
  unfold stepB tkA
  rw [if_neg (show ¬ (1 : Int) = 4 by decide), if_pos rfl]
  unfold beginB
  rw [if_neg (by simp), if_pos h1]
theorem run_A (rest : List Tk) : ∀ (m k : Nat), k + m ≤ 64 → runB ⟨List.replicate k (frA []), none, k, false⟩ (withPos (List.replicate m tkA ++ rest)) = runB ⟨List.replicate (k + m) (frA []), none, k + m, false⟩ (withPos rest)
  | 0, k, _ => rfl
  | m + 1, k, h => by
    have h1 := step_A (S := List.replicate k (frA [])) (c := k) (by simp; omega) (by omega) false
    show runB _ ((tkA, _) :: withPos (List.replicate m tkA ++ rest)) = _
    simp only [runB, h1]
    have := run_A rest m (k + 1) (by omega)
    rw [show k + 1 + m = k + (m + 1) by omega] at this
    exact this
theorem step_C {ks : List Tr} {S : List Fr} {c : Nat} {tx : Bool} : stepB ⟨frA ks :: S, none, c, tx⟩ tkE = .ok (closeB (frA ks) S none c) := by
  unfold stepB tkE
  rw [if_neg (show ¬ (3 : Int) = 4 by decide), if_neg (show ¬ (3 : Int) = 1 by decide), if_neg (show ¬ (3 : Int) = 2 by decide), if_pos rfl]
  unfold endB
  exact if_pos rfl
theorem run_C : ∀ (m j c : Nat), runB ⟨frA (kidsN j) :: List.replicate m (frA []), none, c, false⟩ (withPos (List.replicate (m + 1) tkE)) = .ok (nestT (j + m)) []
  | 0, j, c => by
    show runB _ [(tkE, _)] = _
    simp only [runB, step_C]
    simp only [closeB, List.replicate_zero, frA_tree]
    rfl
  | m + 1, j, c => by
    show runB _ ((tkE, _) :: withPos (List.replicate (m + 1) tkE)) = _
    simp only [runB, step_C]
    have h := run_C m (j + 1) c
    have e : closeB (frA (kidsN j)) (List.replicate (m + 1) (frA [])) none c = ⟨frA (kidsN (j + 1)) :: List.replicate m (frA []), none, c, false⟩ := by
      rw [List.replicate_succ]
      simp only [closeB, frA_tree]
      rfl
    rw [e, h, show j + 1 + m = j + (m + 1) by omega]

def nestL (d : Nat) : List Tk := List.replicate d tkA ++ List.replicate d tkE
theorem nest_alt (d : Nat) : Alt true (nestL d) := alt_rep goodA (show (1 : Int) ≠ 4 by decide) (alt_C d) d true
theorem nest_ok {d : Nat} (h1 : 1 ≤ d) (h2 : d ≤ 64) : buildR (printP (nestL d)) = .ok (nestT (d - 1)) [] := by
  unfold buildR
  rw [allR_pos (nest_alt d)]
  show runB st0 _ = _
  have h := run_A (List.replicate d tkE) d 0 (by omega)
  rw [Nat.zero_add] at h
  show runB ⟨List.replicate 0 (frA []), none, 0, false⟩ (withPos (List.replicate d tkA ++ List.replicate d tkE)) = _
  rw [h]
  obtain ⟨m, rfl⟩ : ∃ m, d = m + 1 := ⟨d - 1, by omega⟩
  have := run_C m 0 (m + 1)
  rw [List.replicate_succ]
  show runB ⟨frA (kidsN 0) :: List.replicate m (frA []), none, m + 1, false⟩ _ = _
  rw [this, Nat.zero_add]
  rfl
theorem nest_bad {d : Nat} (h : 64 < d) : buildR (printP (nestL d)) = .bad 2 (printP (List.replicate (d - 64) tkA ++ List.replicate d tkE)) := by
  unfold buildR
  rw [allR_pos (nest_alt d)]
  show runB st0 _ = _
  have h1 := run_A (List.replicate (d - 64) tkA ++ List.replicate d tkE) 64 0 (by omega)
  rw [Nat.zero_add, ← List.append_assoc, List.replicate_append_replicate, show 64 + (d - 64) = d by omega] at h1
  show runB ⟨List.replicate 0 (frA []), none, 0, false⟩ (withPos (List.replicate d tkA ++ List.replicate d tkE)) = _
  rw [h1]
  obtain ⟨m, hm⟩ : ∃ m, d - 64 = m + 1 := ⟨d - 65, by omega⟩
  rw [hm]
  show runB _ ((tkA, _) :: _) = _
  simp only [runB, step_A_bad (S := List.replicate 64 (frA [])) (c := 64) (by simp) false]
  rfl
theorem rep_len (T : Tk) (k : Nat) (h : (tokP T).length = k) : ∀ n, (printP (List.replicate n T)).length = n * k
  | 0 => by simp [printP]
  | n + 1 => by
    rw [List.replicate_succ]
    show (tokP T ++ printP (List.replicate n T)).length = _
    rw [List.length_append, rep_len T k h n, h, Nat.succ_mul]; omega
theorem rep_snoc (T : Tk) (n : Nat) : printP (List.replicate (n + 1) T) = printP (List.replicate n T) ++ tokP T := by
  rw [List.replicate_succ', printP_app, printP_one]
theorem nest_len (m d : Nat) : (printP (List.replicate m tkA ++ List.replicate d tkE)).length = 3 * m + 4 * d := by
  rw [printP_app, List.length_append, rep_len tkA 3 rfl, rep_len tkE 4 rfl]; omega

/-- Side by side. -/
def leafB : Tr := .mk [98] [] [] []
theorem step_B {ks : List Tr} {c : Nat} (h : c < 4096) : stepB ⟨[frA ks], none, c, false⟩ tkB = .ok ⟨[frA (ks ++ [leafB])], none, c + 1, false⟩ := by
  unfold stepB tkB
  rw [if_neg (show ¬ (2 : Int) = 4 by decide), if_neg (show ¬ (2 : Int) = 1 by decide), if_pos rfl]
  unfold beginB
  rw [if_neg (by simp), if_neg (by simp), if_neg (by simp; omega)]
  rfl
theorem step_B_bad {ks : List Tr} {c : Nat} (h : 4096 ≤ c) : stepB ⟨[frA ks], none, c, false⟩ tkB = .bad 2 := by
  unfold stepB tkB
  rw [if_neg (show ¬ (2 : Int) = 4 by decide), if_neg (show ¬ (2 : Int) = 1 by decide), if_pos rfl]
  unfold beginB
  rw [if_neg (by simp), if_neg (by simp), if_pos (by simp; omega)]
  rfl
theorem run_B (rest : List Tk) : ∀ (m k : Nat), k + m + 1 ≤ 4096 → runB ⟨[frA (List.replicate k leafB)], none, k + 1, false⟩ (withPos (List.replicate m tkB ++ rest)) = runB ⟨[frA (List.replicate (k + m) leafB)], none, k + m + 1, false⟩ (withPos rest)
  | 0, k, _ => rfl
  | m + 1, k, h => by
    have h1 := step_B (ks := List.replicate k leafB) (c := k + 1) (by omega)
    show runB _ ((tkB, _) :: withPos (List.replicate m tkB ++ rest)) = _
    simp only [runB, h1]
    have := run_B rest m (k + 1) (by omega)
    rw [show k + 1 + m = k + (m + 1) by omega] at this
    rw [← List.replicate_succ']
    exact this
theorem step_X {ks : List Tr} {c : Nat} (h : c < 4096) : stepB ⟨[frA ks], none, c, false⟩ tkX = .ok ⟨[frA (ks ++ [.mk [] [] [] [120]])], none, c + 1, true⟩ := by
  unfold stepB tkX
  rw [if_pos rfl]
  simp only [lettersB]
  rw [if_neg (by simp), if_neg (by simp), if_neg (by omega)]
  rfl
theorem step_X_bad {ks : List Tr} {c : Nat} (h : 4096 ≤ c) : stepB ⟨[frA ks], none, c, false⟩ tkX = .bad 2 := by
  unfold stepB tkX
  rw [if_pos rfl]
  simp only [lettersB]
  rw [if_neg (by simp), if_neg (by simp), if_pos (by omega)]

def flatL (m : Nat) (tx : Bool) : List Tk := tkA :: (List.replicate m tkB ++ ((if tx then [tkX] else []) ++ [tkE]))
def flatT (m : Nat) (tx : Bool) : Tr := .mk [97] [] (List.replicate m leafB ++ (if tx then [.mk [] [] [] [120]] else [])) []
theorem flat_alt (m : Nat) (tx : Bool) : Alt true (flatL m tx) := by
  refine ⟨goodA true, fun h => absurd h (show ¬ (1 : Int) = 4 by decide), alt_rep goodB (show (2 : Int) ≠ 4 by decide) (fun f => ?_) m false⟩
  cases tx with
  | false => exact alt_C 1 f
  | true => exact ⟨goodX f, fun _ => ⟨by simp [tkX], fun u r e => by cases e; exact (show (3 : Int) ≠ 4 by decide)⟩, alt_C 1 false⟩
theorem cntL_rep : ∀ n, Tr.cntL (List.replicate n leafB) = n
  | 0 => by simp [Tr.cntL]
  | n + 1 => by rw [List.replicate_succ, Tr.cntL, cntL_rep n, leafB, Tr.cnt, Tr.cntL]; omega
theorem flat_cnt (m : Nat) (tx : Bool) : (flatT m tx).cnt = 1 + m + (if tx then 1 else 0) := by
  unfold flatT
  rw [Tr.cnt, cntL_append, cntL_rep]
  cases tx <;> simp [Tr.cntL, Tr.cnt] <;> omega
theorem flat_start (m : Nat) (tx : Bool) : buildR (printP (flatL m tx)) = runB ⟨[frA []], none, 1, false⟩ (withPos (List.replicate m tkB ++ ((if tx then [tkX] else []) ++ [tkE]))) := by
  unfold buildR
  rw [allR_pos (flat_alt m tx)]
  show runB st0 ((tkA, _) :: _) = _
  simp only [runB, st0, step_A (S := []) (c := 0) (by simp) (by omega) false]
theorem flat_ok {m : Nat} {tx : Bool} (h : m + (if tx then 1 else 0) + 1 ≤ 4096) : buildR (printP (flatL m tx)) = .ok (flatT m tx) [] := by
  rw [flat_start]
  have h1 := run_B ((if tx then [tkX] else []) ++ [tkE]) m 0 (by omega)
  rw [Nat.zero_add m] at h1
  show runB ⟨[frA (List.replicate 0 leafB)], none, 0 + 1, false⟩ _ = _
  rw [h1]
  cases tx with
  | false =>
    show runB _ [(tkE, _)] = _
    simp only [runB, step_C]
    simp only [closeB]
    unfold flatT
    simp
    rfl
  | true =>
    simp only [if_true] at h
    show runB _ [(tkX, _), (tkE, _)] = _
    simp only [runB, step_X (ks := List.replicate m leafB) (c := m + 1) (by omega)]
    simp only [step_C]
    simp only [closeB]
    rfl
theorem flat_bad {m : Nat} {tx : Bool} (h : 4096 < m + (if tx then 1 else 0) + 1) : ∃ r, buildR (printP (flatL m tx)) = .bad 2 r := by
  rw [flat_start]
  by_cases hm : 4096 ≤ m
  · have h1 := run_B (List.replicate (m - 4095) tkB ++ ((if tx then [tkX] else []) ++ [tkE])) 4095 0 (by omega)
    rw [Nat.zero_add, ← List.append_assoc, List.replicate_append_replicate, show 4095 + (m - 4095) = m by omega] at h1
    refine ⟨printP (List.replicate (m - 4095) tkB ++ ((if tx then [tkX] else []) ++ [tkE])), ?_⟩
    show runB ⟨[frA (List.replicate 0 leafB)], none, 0 + 1, false⟩ _ = _
    rw [h1]
    obtain ⟨k, hk⟩ : ∃ k, m - 4095 = k + 1 := ⟨m - 4096, by omega⟩
    rw [hk]
    show runB _ ((tkB, _) :: _) = _
    simp only [runB, step_B_bad (ks := List.replicate 4095 leafB) (c := 4096) (Nat.le_refl _)]
    rfl
  · cases tx with
    | false => simp at h; omega
    | true =>
      simp only [if_true] at h
      have hm2 : m = 4095 := by omega
      subst hm2
      have h1 := run_B ([tkX] ++ [tkE]) 4095 0 (by omega)
      rw [Nat.zero_add] at h1
      refine ⟨printP ([tkX] ++ [tkE]), ?_⟩
      show runB ⟨[frA (List.replicate 0 leafB)], none, 0 + 1, false⟩ (withPos (List.replicate 4095 tkB ++ ([tkX] ++ [tkE]))) = _
      rw [h1]
      show runB _ ((tkX, _) :: _) = _
      simp only [runB, step_X_bad (ks := List.replicate 4095 leafB) (c := 4095 + 1) (by omega)]
      rfl

end Go.Proofs.Ytpchljiiappmnaa

/- The law TreeLimits, walked; the conditions stand in the theorem. -/
namespace Go.Proofs.Ytpchljiiappmnaa
open Go Go.RowKit

/-- A slice of bytes of the call's own. -/
def Byt (R : Nat) (W : World) (v : Value) (l : Bs) : Prop := W.ownsRow R 5 1 v l.length (Lib.byteCells l)
theorem byteCells_len2 (l : Bs) : (Lib.byteCells l).length = l.length := by simp [Lib.byteCells]
/-- A slice of bytes: one of the call's own, or a literal that is full. -/
def ByT (R : Nat) (W : World) (v : Value) (l : Bs) : Prop := Byt R W v l ∨ ∃ g, v = .slice (some ⟨g, 0, none⟩) l.length l.length ∧ R ≤ g ∧ g < W.heap.size ∧ ∀ j u, (Lib.byteCells l)[j]? = some u → W.cell? ⟨g, j, none⟩ = some u
theorem ByT.shape {R : Nat} {W : World} {v : Value} {l : Bs} (h : ByT R W v l) : ∃ ao cap, v = .slice ao l.length cap := by
  rcases h with h | ⟨g, rfl, -⟩
  · rcases h.2 with ⟨rfl, h0⟩ | ⟨g, cap, cur, rfl, -⟩
    · exact ⟨none, 0, by rw [h0]⟩
    · exact ⟨_, _, rfl⟩
  · exact ⟨_, _, rfl⟩
theorem ByT.alloc {R : Nat} {W : World} {v : Value} {l : Bs} (h : ByT R W v l) (o : Obj) : ByT R (W.alloc o) v l := by
  rcases h with h | ⟨g, e, h1, h2, h3⟩
  · exact .inl (World.ownsRow.alloc h o)
  · exact .inr ⟨g, e, h1, by simp; omega, fun j u hu => by rw [((Below.refl W.heap.size W).alloc (Nat.le_refl _) o).cell (p := ⟨g, j, none⟩) h2]; exact h3 j u hu⟩
theorem ByT.lit (w : World) (R H : Nat) (hH : w.heap.size = H) (hR : R ≤ H) (fz : Nat × Nat) : ByT R (w.alloc (.cells #[.int .u8 60, .int .u8 97, .int .u8 62] 5 fz)) (.slice (some ⟨H, 0, none⟩) 3 3) [60, 97, 62] := by
  subst hH
  refine .inr ⟨w.heap.size, rfl, hR, by simp, fun j u hu => ?_⟩
  rw [cell_of_row _ w.heap.size j _ 5 fz (heap_alloc_new w _)]
  have : (Lib.byteCells [60, 97, 62]) = [.int .u8 60, .int .u8 97, .int .u8 62] := rfl
  rw [this] at hu
  simpa using hu
theorem ByT.back {R : Nat} {W : World} {v : Value} {l : Bs} (h : ByT R W v l) (h0 : l ≠ []) : ∃ g cap, v = .slice (some ⟨g, 0, none⟩) l.length cap ∧ (convert 47 9 (.slice (some ⟨g, 0, none⟩) l.length cap)).run Try.prog W = .ok (.string (bs l)) W := by
  have hg : ∃ g cap, v = .slice (some ⟨g, 0, none⟩) l.length cap ∧ ∀ j u, (Lib.byteCells l)[j]? = some u → W.cell? ((⟨g, 0, none⟩ : Addr).add j) = some u := by
    rcases h with h | ⟨g, rfl, -, -, hc⟩
    · have hh := h
      rcases h.2 with ⟨-, h3⟩ | ⟨g, cap, cur, rfl, -⟩
      · rw [List.length_eq_zero_iff] at h3; exact absurd h3 h0
      · exact ⟨g, cap, rfl, fun j u hu => World.ownsRow.cells hh (g := g) rfl j u hu⟩
    · exact ⟨g, _, rfl, fun j u hu => by
        have ha : (⟨g, 0, none⟩ : Addr).add j = ⟨g, j, none⟩ := by unfold Addr.add; split <;> simp_all
        rw [ha]; exact hc j u hu⟩
  obtain ⟨g, cap, rfl, hc⟩ := hg
  exact ⟨g, cap, rfl, run_convert_bytes_back (P := Try.prog) W 47 9 5 ⟨g, 0, none⟩ cap l Try.underlying47 Try.underlying5 Try.underlying9 (fun j hj => hc j _ (by simp [Lib.byteCells, hj]))⟩
theorem below_of_grown {R : Nat} {w w' : World} {row : Option Nat} (h : w.grownBy w' row) (hR : R ≤ w.heap.size) (hr : ∀ g, row = some g → R ≤ g) : Below R w w' :=
  ⟨h.os, h.tape, h.output, h.size, fun q hq => h.block q (by omega) (fun e => by have := hr q e.symm; omega)⟩
theorem cells_app (l : Bs) (s : S) : Lib.byteCells l ++ Lib.strCells s = Lib.byteCells (l ++ s.data.toList) := by
  rw [← str_cells (s := s) (l := s.data.toList) (data_bs s).symm]
theorem byT_str (w : World) {ops : Array Oper} {rest : List Oper} {o : Oper} {a : Act} {Q : Exit → Act → World → Prop} (hgd : o.guard = none) (sl x : Operand) (ho : o.op = .call { callee := .builtin .append, args := #[sl, x], argTypes := #[47, 9] })
    (R : Nat) (v : Value) (l : Bs) (hs : a.eval sl = v) (h : ByT R w v l) (s : S) (hx : a.eval x = .string s) (h0 : 0 < s.size) (hlen : l.length + s.size ≤ 1000000) (hR : R ≤ w.heap.size)
    (hK : ∀ v' w', Byt R w' v' (l ++ s.data.toList) → Below R w w' → wpList Try.prog ops Q rest (a.put o.dst v') w') : wpList Try.prog ops Q (o :: rest) a w := by
  obtain ⟨i0, hi, hz0, hz1, hz2⟩ := info_parts info_byte
  have hcl := byteCells_len2 l
  have hsl : s.data.toList.length = s.size := size_data s
  rcases h with h | ⟨g, rfl, hRg, hgl, hc⟩
  · have hh := h
    unfold Byt at h
    refine Lib.wpList_append_own_string _ hgd sl x 47 9 ho R 5 i0 Try.underlying47 Try.underlying9 hi hz0 hz1 hz2 v l.length _ hs h s hx (by unfold maxLen; omega) (by omega) hR (fun v' w' h1 h2 _ => hK v' w' ?_ (below_of_grown h2 hR (fun g e => (World.ownsRow.lt hh g e).1)))
    show w'.ownsRow _ _ _ _ _ _
    rw [← cells_app, List.length_append, hsl]
    exact h1
  · refine wpList_plain hgd fun K hK2 => ?_
    have hr := Lib.run_append_grow_string (P := Try.prog) (w := w) 47 9 o.type 5 i0 (.int .u8 0) Try.underlying47 Try.underlying9 hi hz0 ⟨g, 0, none⟩ l.length l.length (Lib.byteCells l) (by rw [hz1, hcl, Nat.mul_one]) (fun j u hu => by
      have ha : (⟨g, 0, none⟩ : Addr).add j = ⟨g, j, none⟩ := by unfold Addr.add; split <;> simp_all
      rw [ha]; exact hc j u hu) s (by omega) (by omega) (by rw [hz2]; exact growslice_fits (by omega) (by omega))
    have hge := grownCap_ge w (l.length + s.size) l.length 5
    have hcm := grownCap_le_maxLen w (l.length + s.size) l.length 5 (by unfold maxLen; omega)
    have hlen2 : (Lib.byteCells l ++ Lib.strCells s).length = (l.length + s.size) * 1 := by rw [List.length_append, hcl, Lib.strCells_length, Nat.mul_one]
    unfold Oper.wp execOp
    simp only [ho, resolve, invoke, builtin, Sem.run_bind, Sem.run_pure, Result.andThen_ok, List.map_toArray, List.map_cons, List.map_nil, hs, hx, hr]
    refine hK2 _ _ (hK _ _ ?_ ⟨rfl, rfl, rfl, by simp, fun k hk => Lib.alloc_old w.drew _ k (by show k < w.heap.size; omega)⟩)
    show World.ownsRow _ _ _ _ _ _ _
    rw [← cells_app, List.length_append, hsl]
    refine ⟨hlen2, .inr ⟨w.heap.size, _, _, rfl, hR, heap_alloc_new w.drew _, hge, hcm, ?_, ?_⟩⟩
    · have hz1 : (Value.int IntKind.u8 0).cells.size = 1 := rfl
      simp only [Array.size_append, List.size_toArray, size_zeroCells, hz1, hcl, Lib.strCells_length]
      omega
    · simp only [Array.toList_append, List.append_assoc]
      rw [← List.append_assoc, ← hlen2]
      exact List.take_left
theorem byT_one (w : World) {ops : Array Oper} {rest : List Oper} {o : Oper} {a : Act} {Q : Exit → Act → World → Prop} (hgd : o.guard = none) (sl x : Operand) (ho : o.op = .call { callee := .builtin .append, args := #[sl, x], argTypes := #[47, 47] })
    (R : Nat) (v : Value) (l : Bs) (hs : a.eval sl = v) (h : ByT R w v l) (H : Nat) (c : UInt8) (hx : a.eval x = .slice (some ⟨H, 0, none⟩) 1 1) (hc1 : w.cell? ⟨H, 0, none⟩ = some (.int .u8 (c.toNat : Nat))) (hlen : l.length ≤ 1000000) (hR : R ≤ w.heap.size)
    (hK : ∀ v' w', Byt R w' v' (l ++ [c]) → Below R w w' → wpList Try.prog ops Q rest (a.put o.dst v') w') : wpList Try.prog ops Q (o :: rest) a w := by
  obtain ⟨i0, hi, hz0, hz1, hz2⟩ := info_parts info_byte
  have hcl := byteCells_len2 l
  have hnc : ∀ j u, ([Value.int .u8 (c.toNat : Nat)] : List Value)[j]? = some u → w.cell? ((⟨H, 0, none⟩ : Addr).add j) = some u := fun j u hu => by
    match j, hu with
    | 0, hu => simp at hu; subst hu; exact hc1
  have hap : Lib.byteCells (l ++ [c]) = Lib.byteCells l ++ [Value.int .u8 (c.toNat : Nat)] := by simp [Lib.byteCells]
  rcases h with h | ⟨g, rfl, hRg, hgl, hc⟩
  · have hh := h
    unfold Byt at h
    refine wpList_append_own _ hgd sl x 47 ho R 5 i0 (.int .u8 0) 1 1 Try.underlying47 hi hz0 hz1 hz2 rfl (by decide) v l.length _ hs h ⟨H, 0, none⟩ 1 1 [.int .u8 (c.toNat : Nat)] hx rfl hnc (by intro u hu; simp at hu; subst hu; rfl) (by unfold maxLen; omega) (by omega) hR (fun v' w' h1 h2 _ => hK v' w' ?_ (below_of_grown h2 hR (fun g e => (World.ownsRow.lt hh g e).1)))
    show w'.ownsRow _ _ _ _ _ _
    rw [hap, List.length_append]
    exact h1
  · refine wpList_append_grows _ hgd sl x 47 ho 5 i0 (.int .u8 0) 1 1 Try.underlying47 hi hz0 hz1 hz2 rfl (by decide) (some ⟨g, 0, none⟩) l.length l.length (Lib.byteCells l) hs (fun e => by cases e) (by omega) (fun b e j u hu => by
      cases e
      have ha : (⟨g, 0, none⟩ : Addr).add j = ⟨g, j, none⟩ := by unfold Addr.add; split <;> simp_all
      rw [ha]; exact hc j u hu) ⟨H, 0, none⟩ 1 1 [.int .u8 (c.toNat : Nat)] hx rfl hnc (by intro u hu; simp at hu; subst hu; rfl) (by omega) (by unfold maxLen; omega) (by omega) (fun v' w' h1 h2 => hK v' w' ?_ (below_of_grown h2 hR (fun g e => by cases e)))
    show w'.ownsRow _ _ _ _ _ _
    rw [hap, List.length_append]
    refine ⟨h1.1, ?_⟩
    rcases h1.2 with h | ⟨g, cap, cur, e1, e2, e3⟩
    · exact .inl h
    · exact .inr ⟨g, cap, cur, e1, Nat.le_trans hR e2, e3⟩
theorem flat_print (m : Nat) (tx : Bool) : printP (flatL m tx) = printP (tkA :: List.replicate m tkB) ++ ((if tx then [120] else []) ++ [60, 47, 97, 62]) := by
  unfold flatL
  rw [← List.cons_append, printP_app]
  cases tx <;> rfl
theorem row_len (m : Nat) : (printP (tkA :: List.replicate m tkB)).length = 3 + m * 4 := by
  show (tokP tkA ++ printP (List.replicate m tkB)).length = _
  rw [List.length_append, rep_len tkB 4 rfl]; rfl
theorem row_snoc (m : Nat) : printP (tkA :: List.replicate (m + 1) tkB) = printP (tkA :: List.replicate m tkB) ++ [60, 98, 47, 62] := by
  show tokP tkA ++ printP (List.replicate (m + 1) tkB) = (tokP tkA ++ printP (List.replicate m tkB)) ++ [60, 98, 47, 62]
  rw [rep_snoc, List.append_assoc]; rfl

/-- What the first Build leaves. -/
def FirstB (w W : World) (n j a : Nat) (x : Int) : Prop := Below w.heap.size w W ∧
  ((64 < j ∧ x = 2 ∧ ∃ (P : Nat) (li co : Int), (P : Int) = (a : Int) - 3 * ((j : Int) - 64) ∧ Box W (n + 1) [.int .i64 P, .int .i64 li, .int .i64 co]) ∨
   (j ≤ 64 ∧ x = 0 ∧ ∃ (t : Tr) (a1 : Option Addr) (a2 : Nat) (k1 : Option Addr) (k2 : Nat), t.dep = j ∧ t.cnt ≤ 100 ∧ NodeOf W t (.slice a1 t.attrs.length a2) (.slice k1 t.kids.length k2) ∧ Box W n [.string (bs t.name), .slice a1 t.attrs.length a2, .slice k1 t.kids.length k2, .string (bs t.text)]))

set_option maxRecDepth 100000 in
set_option maxHeartbeats 32000000 in
theorem treeLimitsLaw_any (D M : Int) (tx : Bool) (mx : Int) (w : World) (hm : w.cell? ⟨0, 0, none⟩ = some (.int .i64 mx)) :
    Calls Try.prog 13 #[.int .i64 D, .int .i64 M, .bool tx] w fun e w' => e = .returned (.bool true) ∧ Below w.heap.size w w' := by
  have hw0 : 0 < w.heap.size := World.block_lt_of_cell? w _ hm
  have HLV : Hid (∀ W, Below w.heap.size w W → Calls Try.prog 36 #[] W fun e w' => e = .returned (.bool true) ∧ Below W.heap.size W w') := fun W h => treeLives_any mx W ((h.cell (by exact hw0)).trans hm)
  have HMX : Hid (∀ W, Below w.heap.size w W → W.cell? ⟨0, 0, none⟩ = some (.int .i64 mx)) := fun W h => (h.cell (by exact hw0)).trans hm
  clear hm
  go_enter Try.func13, Try.ntmps13
  go_upto_region 1 with fail
  go_cut [0, 1] from 7 (fun u v wx => ∃ d m : Nat, 1 ≤ d ∧ d ≤ 67 ∧ m ≤ 4099 ∧ u = .int .i64 d ∧ v = .int .i64 m ∧ wx = w)
  case first =>
    go_wp2_with fail
    go_meet
    exact ⟨(max 1 (min D 67)).toNat, (max 0 (min M 4099)).toNat, by omega, by omega, by omega, by rw [Int.toNat_of_nonneg (by omega)], by rw [Int.toNat_of_nonneg (by omega)], rfl⟩
  case rest =>
    obtain ⟨d, m, hd1, hd2, hm1, rfl, rfl, hwc⟩ := hcut
    obtain rfl : w = wc := hwc.symm
    go_wp2_with fail
    go_loopw [7, 23] (fun s i wr => ∃ (k : Nat) (U : S), k ≤ d ∧ i = .int .i64 k ∧ s = .string U ∧ wr = w ∧ Hid (U = bs (printP (List.replicate k tkA)))) (fun _ i _ => d - (intOf i).toNat)
    case atStart => exact ⟨0, _, Nat.zero_le _, rfl, rfl, rfl, rfl⟩
    case round =>
      obtain ⟨k, U, hk, rfl, rfl, hwr, HU⟩ := hrel
      obtain rfl : w = wr := hwr.symm
      have hUs : U.size = 3 * k := by rw [HU.out, bs_size, rep_len tkA 3 rfl]; omega
      by_cases hlt : k < d
      · have hi : (k : Int) < (d : Int) := by omega
        have hov : ¬ 9223372036854775807 < U.size + 3 := by omega
        have HUN : Hid (U ++ (⟨#[60, 97, 62]⟩ : S) = bs (printP (List.replicate (k + 1) tkA))) := by
          show _ = _
          rw [HU.out, show (⟨#[60, 97, 62]⟩ : S) = bs [60, 97, 62] from rfl, bs_append, rep_snoc]; rfl
        clear hUs
        go_wp2
        go_roundw
        case rel => exact ⟨k + 1, _, hlt, by go_num, rfl, by first | rfl | trivial, HUN.out⟩
        case measure => simp [intOf]; omega
      · obtain rfl : k = d := by omega
        obtain ⟨a, ha⟩ : ∃ a : Nat, U.size = a := ⟨_, rfl⟩
        have hA : Hid (a = 3 * k) := ha.symm.trans hUs
        clear hUs
        go_wp2_with fail
        clear ha
        go_loopw [7, 31] (fun s i wr => ∃ (j : Nat) (V : S), j ≤ k ∧ i = .int .i64 j ∧ s = .string V ∧ wr = w ∧ Hid (V = bs (printP (List.replicate k tkA ++ List.replicate j tkE)))) (fun _ i _ => k - (intOf i).toNat)
        case atStart => exact ⟨0, _, Nat.zero_le _, rfl, rfl, rfl, by rw [List.replicate_zero, List.append_nil]; exact HU.out⟩
        case round =>
          obtain ⟨j, V, hj, rfl, rfl, hwr, HV⟩ := hrel
          obtain rfl : w = wr := hwr.symm
          have hVs : V.size = 3 * k + 4 * j := by rw [HV.out, bs_size, nest_len]
          by_cases hlt2 : j < k
          · have hi : (j : Int) < (k : Int) := by omega
            have hov : ¬ 9223372036854775807 < V.size + 4 := by omega
            have HVN : Hid (V ++ (⟨#[60, 47, 97, 62]⟩ : S) = bs (printP (List.replicate k tkA ++ List.replicate (j + 1) tkE))) := by
              show _ = _
              rw [HV.out, show (⟨#[60, 47, 97, 62]⟩ : S) = bs [60, 47, 97, 62] from rfl, bs_append, printP_app, printP_app, rep_snoc, List.append_assoc]; rfl
            clear hVs
            go_wp2
            go_roundw
            case rel => exact ⟨j + 1, _, hlt2, by go_num, rfl, by first | rfl | trivial, HVN.out⟩
            case measure => simp [intOf]; omega
          · obtain rfl : j = k := by omega
            have HVD : Hid (V.data.toList = printP (nestL j)) := by show _ = _; rw [HV.out, bs_data]; rfl
            have HBU := Lib.hid (build_any V mx w (by omega) (HMX.out w (Below.refl _ _)))
            have HVS := Lib.hid hVs
            rw [HVD.out] at HBU
            clear hVs HU
            have ha5 : a ≤ 300 := by have := hA.out; omega
            go_upto_region 12 with fail
            go_cut [9, 10, 11] from 16 (fun p e q wx => ∃ (n : Nat) (x : Int), p = .pointer (some ⟨n, 0, none⟩) ∧ e = .int .i64 x ∧ q = .pointer (some ⟨n + 1, 0, none⟩) ∧ Hid (FirstB w wx n j a x))
            case first =>
              go_wp2_with fail
              refine HBU.out.mono ?_
              by_cases hd64 : 64 < j
              · rw [nest_bad hd64]
                rintro e w1 ⟨rfl, hb1⟩
                obtain ⟨P, hP⟩ : ∃ P, P = pos V (printP (List.replicate (j - 64) tkA ++ List.replicate j tkE)) := ⟨_, rfl⟩
                have hPv : P = 192 := by rw [hP]; unfold pos; rw [nest_len]; have := HVS.out; omega
                rw [← hP]
                have HF : Hid (∀ o li co, FirstB w ((w1.alloc o).alloc (.cells #[.int .i64 P, .int .i64 li, .int .i64 co] 26)) w1.heap.size j a 2) := fun o li co => ⟨(hb1.alloc hb1.size _).alloc (by have := hb1.size; simp; omega) _, .inl ⟨hd64, rfl, P, li, co, by have := hA.out; omega, Box.new _ _ _ _ (by simp)⟩⟩
                unfold noNode placeV
                generalize (lineCol _).1 = li
                generalize (lineCol _).2 = co
                clear hP hPv hb1 hd64 HBU
                go_wp2_with fail
                go_meet
                exact ⟨_, _, rfl, rfl, rfl, HF.out _ _ _⟩
              · rw [nest_ok hd1 (by omega)]
                rintro e w1 ⟨av, kv, rfl, hn, hb1⟩
                obtain ⟨a1, a2, k1, k2, rfl, rfl, -, -⟩ := hn.shape
                unfold nodeV zeroPlace
                generalize hnt : nestT (j - 1) = t at *
                have hdp : t.dep = j ∧ t.cnt ≤ 100 := by rw [← hnt, nest_dep, nest_cnt]; omega
                have HF : Hid (∀ o, FirstB w ((w1.alloc (.cells #[.string (bs t.name), .slice a1 t.attrs.length a2, .slice k1 t.kids.length k2, .string (bs t.text)] 54)).alloc o) w1.heap.size j a 0) := fun o => by
                  have h0 : Below w1.heap.size w1 ((w1.alloc (.cells #[.string (bs t.name), .slice a1 t.attrs.length a2, .slice k1 t.kids.length k2, .string (bs t.text)] 54)).alloc o) := ((Below.refl _ _).alloc (Nat.le_refl _) _).alloc (by simp) _
                  exact ⟨hb1.trans (h0.mono hb1.size), .inr ⟨by omega, rfl, t, _, _, _, _, hdp.1, hdp.2, hn.later h0, (Box.new w1 _ _ _ rfl).alloc _⟩⟩
                clear hb1 hd64 HBU hn hnt hdp
                go_wp2_with fail
                go_meet
                exact ⟨_, _, rfl, rfl, rfl, HF.out _⟩
            case rest =>
              obtain ⟨n, x, rfl, rfl, rfl, HF⟩ := hcut
              clear HBU HVS HVD HV
              go_upto_if 43 with fail
              go_cut [] from 16 (fun wx => Hid (Below w.heap.size w wx))
              case first =>
                rcases HF.out with ⟨hb, ⟨hd, rfl, P, li, co, hP, hx⟩ | ⟨hd, rfl, t, a1, a2, k1, k2, hdp, hcn, hn, hx⟩⟩
                · have hdI : (64 : Int) < (j : Int) := by omega
                  have hPb : ((P : Int) != (a : Int) - 3 * ((j : Int) - 64)) = false := by rw [bne_eq_false_iff_eq]; omega
                  have p0 := hx.cell 0 _ rfl
                  have pl := hx.lt
                  have HB := Lib.hid hb
                  clear hb hx hP hd HF
                  go_wp2_with fail
                  go_meet
                  exact HB
                · have hdI : ¬ (64 : Int) < (j : Int) := by omega
                  have HB := Lib.hid hb
                  have HDP : Hid (∀ W, W = wc → Calls Try.prog 40 #[.agg #[.string (bs t.name), .slice a1 t.attrs.length a2, .slice k1 t.kids.length k2, .string (bs t.text)]] W fun e w' => e = .returned (.int .i64 j) ∧ Below W.heap.size W w') := fun W e => by
                    have h := refDepth_any _ t W _ _ (Nat.le_refl _) (by rw [e]; exact hn) (by omega)
                    rw [hdp] at h
                    exact h
                  have p0 := hx.cell 0 _ rfl
                  have p1 := hx.cell 1 _ rfl
                  have p2 := hx.cell 2 _ rfl
                  have p3 := hx.cell 3 _ rfl
                  have pl := hx.lt
                  have hjj : ((j : Int) != (j : Int)) = false := by simp
                  have hjj2 : ((j : Int) == (j : Int)) = true := by simp
                  clear hb hx hn hdp hcn hd HF
                  go_wp2_with fail
                  refine (HDP.out _ rfl).mono ?_
                  rintro e w4 ⟨rfl, hb4⟩
                  have HB4 := Lib.hid (HB.out.trans (hb4.mono HB.out.size))
                  clear hb4 HDP
                  go_wp2_with fail
                  go_meet
                  exact HB4
              case rest =>
                clear HF hA ha5
                have HBC := Lib.hid hcut.out
                clear hcut
                have kc := fun (w : World) (C : Array Value) (n c : Nat) => Lib.run_convert_bytes_const (P := Try.prog) w 47 5 C n c Try.underlying47 Try.underlying5
                go_wp2_with fail
                clear kc
                have HBL := Lib.hid (ByT.lit wc w.heap.size wc.heap.size rfl HBC.out.size (3, 4))
                have HBA : Hid (Below w.heap.size w (wc.alloc (.cells #[.int .u8 60, .int .u8 97, .int .u8 62] 5 (3, 4)))) := HBC.out.alloc HBC.out.size _
                go_loopw [12, 67] (fun v i wr => ∃ (k : Nat) (v' : Value), k ≤ m ∧ i = .int .i64 k ∧ v = v' ∧ Hid (ByT w.heap.size wr v' (printP (tkA :: List.replicate k tkB)) ∧ Below w.heap.size w wr)) (fun _ i _ => m - (intOf i).toNat)
                case atStart => exact ⟨0, _, Nat.zero_le _, rfl, rfl, HBL.out, HBA.out⟩
                case round =>
                  obtain ⟨k, v, hk2, rfl, rfl, HR⟩ := hrel
                  have hrl := row_len k
                  by_cases hkm : k < m
                  · have hki : (k : Int) < (m : Int) := by omega
                    have hle : (printP (tkA :: List.replicate k tkB)).length ≤ 20000 := by omega
                    have HSN := Lib.hid (row_snoc k)
                    clear hrl
                    generalize printP (tkA :: List.replicate k tkB) = P at *
                    obtain ⟨lo, lc, hlv⟩ := HR.out.1.shape
                    subst hlv
                    go_wp2_with (at_builtin; go_loud ((refine byT_str _ rfl _ _ rfl w.heap.size (.slice lo P.length lc) P rfl HR.out.1 ⟨#[60, 98, 47, 62]⟩ rfl (by decide) (by rw [size_lit]; simp; omega) HR.out.2.size ?_; intro v' w2 hown' hbel; have HN := Lib.hid hown'; have HB2 := Lib.hid (HR.out.2.trans hbel); obtain ⟨no, nc, hnv⟩ := ByT.shape (R := w.heap.size) (W := w2) (l := P ++ [60, 98, 47, 62]) (Or.inl hown'); subst hnv; clear hown' hbel)))
                    have HN2 : Hid (ByT w.heap.size w2 (.slice no (P ++ [60, 98, 47, 62]).length nc) (printP (tkA :: List.replicate (k + 1) tkB))) := by show ByT _ _ _ _; rw [HSN.out]; exact .inl HN.out
                    go_wp2
                    go_roundw
                    case rel => exact ⟨k + 1, _, hkm, by go_num, rfl, by have h := HN2.out; rw [List.length_append] at h; exact h, HB2.out⟩
                    case measure => simp [intOf]; omega
                  · obtain rfl : k = m := by omega
                    have HFL := Lib.hid (flat_print k tx)
                    have HCN := Lib.hid (flat_cnt k tx)
                    have HOK := Lib.hid (fun h => flat_ok (m := k) (tx := tx) h)
                    have HBD := Lib.hid (fun h => flat_bad (m := k) (tx := tx) h)
                    have HLN : Hid ((printP (tkA :: List.replicate k tkB)).length = 3 + k * 4) := hrl
                    have hne : printP (tkA :: List.replicate k tkB) ≠ [] := fun e => by rw [e] at hrl; simp at hrl; omega
                    clear hrl
                    generalize printP (tkA :: List.replicate k tkB) = P at *
                    obtain ⟨lo, lc, hlv⟩ := HR.out.1.shape
                    subst hlv
                    cases tx with
                    | true =>
                      have hle : P.length ≤ 20000 := by have := HLN.out; omega
                      obtain ⟨Z, hZ⟩ : ∃ Z : S, bs (P ++ [120]) = Z := ⟨_, rfl⟩
                      have HZ := Lib.hid hZ
                      have hov : ¬ 9223372036854775807 < Z.size + 4 := by rw [← hZ, bs_size]; simp; omega
                      have HZE : Hid ((Z ++ (⟨#[60, 47, 97, 62]⟩ : S)).data.toList = printP (flatL k true)) := by
                        show _ = _
                        rw [← hZ, show (⟨#[60, 47, 97, 62]⟩ : S) = bs [60, 47, 97, 62] from rfl, bs_append, bs_data, HFL.out]
                        simp
                      have HZS : Hid ((Z ++ (⟨#[60, 47, 97, 62]⟩ : S)).size ≤ 65536) := by
                        show _ ≤ _
                        rw [← hZ, show (⟨#[60, 47, 97, 62]⟩ : S) = bs [60, 47, 97, 62] from rfl, bs_append, bs_size]
                        have := HLN.out
                        simp; omega
                      have HBU2 : Hid (∀ W, Below w.heap.size w W → Calls Try.prog 33 #[.string (Z ++ (⟨#[60, 47, 97, 62]⟩ : S))] W (BuildOut (Z ++ (⟨#[60, 47, 97, 62]⟩ : S)) W (buildR (printP (flatL k true))))) := fun W hb => by
                        have h := build_any (Z ++ (⟨#[60, 47, 97, 62]⟩ : S)) mx W HZS.out (HMX.out W hb)
                        rw [HZE.out] at h
                        exact h
                      have HC1 : Hid ((wr.alloc (.cells #[.int .u8 120] 5)).cell? ⟨wr.heap.size, 0, none⟩ = some (.int .u8 (((120 : UInt8).toNat : Nat) : Int))) := (Box.new wr [.int .u8 120] 5 _ rfl).cell 0 _ rfl
                      have HA1 := Lib.hid (HR.out.1.alloc (.cells #[.int .u8 120] 5))
                      have HSZ : Hid (w.heap.size ≤ (wr.alloc (.cells #[.int .u8 120] 5)).heap.size) := by show _ ≤ _; have := HR.out.2.size; simp; omega
                      have HRB := Lib.hid (HR.out.2.alloc HR.out.2.size (.cells #[.int .u8 120] 5))
                      clear hZ
                      go_wp2_with (at_builtin; go_loud ((refine byT_one _ rfl _ _ rfl w.heap.size (.slice lo P.length lc) P rfl HA1.out wr.heap.size 120 rfl HC1.out (by omega) HSZ.out ?_; intro v' w2 hown' hbel; have HB2 := Lib.hid (HRB.out.trans hbel); obtain ⟨gb, nc, hnv, hcv⟩ := ByT.back (R := w.heap.size) (W := w2) (l := P ++ [120]) (Or.inl hown') (by simp); subst hnv; rw [HZ.out] at hcv; simp only [List.length_append, List.length_cons, List.length_nil, Nat.zero_add] at hcv; clear hown' hbel)))
                      clear hcv
                      refine (HBU2.out w2 HB2.out).mono ?_
                      by_cases htot : 4096 < k + 1 + 1
                      · obtain ⟨r, hr⟩ := HBD.out (by first | exact htot | (simp; omega))
                        rw [hr]
                        rintro e w5 ⟨rfl, hb5⟩
                        have hI : (4096 : Int) < ((k : Int) + 1) + 1 := by omega
                        have HB5 := Lib.hid (HB2.out.trans (hb5.mono HB2.out.size))
                        have HB6 : Hid (∀ o1 o2, Below w.heap.size w ((w5.alloc o1).alloc o2)) := fun o1 o2 => (HB5.out.alloc HB5.out.size _).alloc (by have := HB5.out.size; simp; omega) _
                        unfold noNode placeV
                        clear hb5 hr htot HBU2
                        go_wp2_with fail
                        refine (HLV.out _ (HB6.out _ _)).mono ?_
                        rintro e w7 ⟨rfl, hb7⟩
                        have HB7 := Lib.hid ((HB6.out _ _).trans (hb7.mono (HB6.out _ _).size))
                        clear hb7
                        go_wp2
                        go_ret
                        exact ⟨rfl, HB7.out⟩
                      · rw [HOK.out (by first | omega | (simp; omega))]
                        rintro e w5 ⟨av, kv, rfl, hn, hb5⟩
                        obtain ⟨a1, a2, k1, k2, rfl, rfl, -, -⟩ := hn.shape
                        have hI : ¬ (4096 : Int) < ((k : Int) + 1) + 1 := by omega
                        have hcn : (flatT k true).cnt = k + 1 + 1 := by have := HCN.out; simp at this; omega
                        generalize hft : flatT k true = t at *
                        have HB5 := Lib.hid (HB2.out.trans (hb5.mono HB2.out.size))
                        have HB6 : Hid (∀ o1 o2, Below w.heap.size w ((w5.alloc o1).alloc o2)) := fun o1 o2 => (HB5.out.alloc HB5.out.size _).alloc (by have := HB5.out.size; simp; omega) _
                        have HCT : Hid (∀ o1 o2, Calls Try.prog 41 #[.agg #[.string (bs t.name), .slice a1 t.attrs.length a2, .slice k1 t.kids.length k2, .string (bs t.text)]] ((w5.alloc o1).alloc o2) fun e w' => e = .returned (.int .i64 (((k : Int) + 1) + 1)) ∧ Below ((w5.alloc o1).alloc o2).heap.size ((w5.alloc o1).alloc o2) w') := fun o1 o2 => by
                          have h := refCount_any _ t ((w5.alloc o1).alloc o2) _ _ (Nat.le_refl _) (hn.later (((Below.refl _ _).alloc (Nat.le_refl _) _).alloc (by simp) _)) (by omega)
                          rw [hcn, show ((k + 1 + 1 : Nat) : Int) = ((k : Int) + 1) + 1 by omega] at h
                          exact h
                        unfold nodeV zeroPlace
                        have hcc : (((k : Int) + 1) + 1 == ((k : Int) + 1) + 1) = true := by simp
                        clear hb5 htot HBU2 hn hcn hft HCN HOK HBD
                        go_wp2_with fail
                        refine (HCT.out _ _).mono ?_
                        rintro e w6 ⟨rfl, hb6⟩
                        have HB8 := Lib.hid ((HB6.out _ _).trans (hb6.mono (HB6.out _ _).size))
                        clear hb6 HCT HB6
                        go_wp2_with fail
                        refine (HLV.out _ HB8.out).mono ?_
                        rintro e w7 ⟨rfl, hb7⟩
                        have HB7 := Lib.hid (HB8.out.trans (hb7.mono HB8.out.size))
                        clear hb7
                        go_wp2
                        go_ret
                        exact ⟨rfl, HB7.out⟩
                    | false =>
                      have hle : P.length ≤ 20000 := by have := HLN.out; omega
                      obtain ⟨Z, hZ⟩ : ∃ Z : S, bs (P) = Z := ⟨_, rfl⟩
                      have HZ := Lib.hid hZ
                      have hov : ¬ 9223372036854775807 < Z.size + 4 := by rw [← hZ, bs_size]; simp; omega
                      have HZE : Hid ((Z ++ (⟨#[60, 47, 97, 62]⟩ : S)).data.toList = printP (flatL k false)) := by
                        show _ = _
                        rw [← hZ, show (⟨#[60, 47, 97, 62]⟩ : S) = bs [60, 47, 97, 62] from rfl, bs_append, bs_data, HFL.out]
                        simp
                      have HZS : Hid ((Z ++ (⟨#[60, 47, 97, 62]⟩ : S)).size ≤ 65536) := by
                        show _ ≤ _
                        rw [← hZ, show (⟨#[60, 47, 97, 62]⟩ : S) = bs [60, 47, 97, 62] from rfl, bs_append, bs_size]
                        have := HLN.out
                        simp; omega
                      have HBU2 : Hid (∀ W, Below w.heap.size w W → Calls Try.prog 33 #[.string (Z ++ (⟨#[60, 47, 97, 62]⟩ : S))] W (BuildOut (Z ++ (⟨#[60, 47, 97, 62]⟩ : S)) W (buildR (printP (flatL k false))))) := fun W hb => by
                        have h := build_any (Z ++ (⟨#[60, 47, 97, 62]⟩ : S)) mx W HZS.out (HMX.out W hb)
                        rw [HZE.out] at h
                        exact h
                      obtain ⟨gb, nc, hnv, hcv⟩ := HR.out.1.back hne
                      simp only [Value.slice.injEq, true_and] at hnv
                      obtain ⟨rfl, rfl⟩ := hnv
                      rw [hZ] at hcv
                      have HB2 := Lib.hid HR.out.2
                      obtain ⟨w2, hw2⟩ : ∃ w2 : World, w2 = wr := ⟨_, rfl⟩
                      subst hw2
                      clear hZ
                      go_wp2_with fail
                      clear hcv
                      refine (HBU2.out w2 HB2.out).mono ?_
                      by_cases htot : 4096 < k + 0 + 1
                      · obtain ⟨r, hr⟩ := HBD.out (by first | exact htot | (simp; omega))
                        rw [hr]
                        rintro e w5 ⟨rfl, hb5⟩
                        have hI : (4096 : Int) < (k : Int) + 1 := by omega
                        have HB5 := Lib.hid (HB2.out.trans (hb5.mono HB2.out.size))
                        have HB6 : Hid (∀ o1 o2, Below w.heap.size w ((w5.alloc o1).alloc o2)) := fun o1 o2 => (HB5.out.alloc HB5.out.size _).alloc (by have := HB5.out.size; simp; omega) _
                        unfold noNode placeV
                        clear hb5 hr htot HBU2
                        go_wp2_with fail
                        refine (HLV.out _ (HB6.out _ _)).mono ?_
                        rintro e w7 ⟨rfl, hb7⟩
                        have HB7 := Lib.hid ((HB6.out _ _).trans (hb7.mono (HB6.out _ _).size))
                        clear hb7
                        go_wp2
                        go_ret
                        exact ⟨rfl, HB7.out⟩
                      · rw [HOK.out (by first | omega | (simp; omega))]
                        rintro e w5 ⟨av, kv, rfl, hn, hb5⟩
                        obtain ⟨a1, a2, k1, k2, rfl, rfl, -, -⟩ := hn.shape
                        have hI : ¬ (4096 : Int) < (k : Int) + 1 := by omega
                        have hcn : (flatT k false).cnt = k + 0 + 1 := by have := HCN.out; simp at this; omega
                        generalize hft : flatT k false = t at *
                        have HB5 := Lib.hid (HB2.out.trans (hb5.mono HB2.out.size))
                        have HB6 : Hid (∀ o1 o2, Below w.heap.size w ((w5.alloc o1).alloc o2)) := fun o1 o2 => (HB5.out.alloc HB5.out.size _).alloc (by have := HB5.out.size; simp; omega) _
                        have HCT : Hid (∀ o1 o2, Calls Try.prog 41 #[.agg #[.string (bs t.name), .slice a1 t.attrs.length a2, .slice k1 t.kids.length k2, .string (bs t.text)]] ((w5.alloc o1).alloc o2) fun e w' => e = .returned (.int .i64 ((k : Int) + 1)) ∧ Below ((w5.alloc o1).alloc o2).heap.size ((w5.alloc o1).alloc o2) w') := fun o1 o2 => by
                          have h := refCount_any _ t ((w5.alloc o1).alloc o2) _ _ (Nat.le_refl _) (hn.later (((Below.refl _ _).alloc (Nat.le_refl _) _).alloc (by simp) _)) (by omega)
                          rw [hcn, show ((k + 0 + 1 : Nat) : Int) = (k : Int) + 1 by omega] at h
                          exact h
                        unfold nodeV zeroPlace
                        have hcc : ((k : Int) + 1 == (k : Int) + 1) = true := by simp
                        clear hb5 htot HBU2 hn hcn hft HCN HOK HBD
                        go_wp2_with fail
                        refine (HCT.out _ _).mono ?_
                        rintro e w6 ⟨rfl, hb6⟩
                        have HB8 := Lib.hid ((HB6.out _ _).trans (hb6.mono (HB6.out _ _).size))
                        clear hb6 HCT HB6
                        go_wp2_with fail
                        refine (HLV.out _ HB8.out).mono ?_
                        rintro e w7 ⟨rfl, hb7⟩
                        have HB7 := Lib.hid (HB8.out.trans (hb7.mono HB8.out.size))
                        clear hb7
                        go_wp2
                        go_ret
                        exact ⟨rfl, HB7.out⟩

end Go.Proofs.Ytpchljiiappmnaa
