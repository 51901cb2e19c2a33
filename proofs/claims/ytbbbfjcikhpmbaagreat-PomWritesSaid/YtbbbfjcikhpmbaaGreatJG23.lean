/- The walk of Light; its conditions stand in the theorems. -/
import Derived.Test.YtbbbfjcikhpmbaaGreatProg
import Derived.Test.YtbbbfjcikhpmbaaGreatJG22
import Derived.WalkKit
import Derived.WalkSpells
import Derived.WalkLawsBesides
import Derived.Deep.QuietTactic
import Derived.BigQuiet
import Derived.Lib.Hide
import Derived.Test.YtbbbfjcikhpmbaaGreatJG02
import Derived.Test.YtbbbfjcikhpmbaaGreatJG17
import Derived.Test.YtbbbfjcikhpmbaaGreatJG11
import Derived.Test.YtbbbfjcikhpmbaaGreatJG08
import Derived.Test.YtbbbfjcikhpmbaaGreatJG05
import Derived.Test.YtbbbfjcikhpmbaaGreatJG12
import Derived.Test.YtbbbfjcikhpmbaaGreatJG14
import Derived.Deep.CutBlock
import Derived.Test.YtbbbfjcikhpmbaaGreatJG16
import Derived.Test.YtbbbfjcikhpmbaaGreatJG18
import Derived.ProofKit
import Derived.Deep.Slices
import Derived.Test.YtbbbfjcikhpmbaaGreatRows
import Derived.Test.YtbbbfjcikhpmbaaGreatShelf
import Derived.OpenShut
import Derived.HandedShaped
namespace Go.Proofs.YtbbbfjcikhpmbaaGreat
open Go Go.RowKit

/-- A project that the law looks at. -/
structure LightP (p : Pom) : Prop where
 props : p.props.length ≤ 30
 managed : p.managed.length ≤ 30
 deps : p.deps.length ≤ 30
 own : ∀ s ∈ [p.group, p.artifact, p.version, p.packaging, p.parent.group, p.parent.artifact, p.parent.version], s.size ≤ 2000
 prp : ∀ y ∈ p.props, y.name.size ≤ 2000 ∧ y.value.size ≤ 2000
 managedL : ∀ d ∈ p.managed, LightD d
 depsL : ∀ d ∈ p.deps, LightD d
set_option maxRecDepth 100000 in
set_option maxHeartbeats 1000000 in
theorem lightP_any (p : Pom) (pv mv dv : Value) (w : World) (hp : PomOf w (.agg (pomC p pv mv dv).toArray) p pv mv dv) :
    Calls Tryz.prog 16 #[.agg (pomC p pv mv dv).toArray] w (RetB (LightP p) w) := by
 obtain ⟨-, h1, h2, h3⟩ := hp
 obtain ⟨md, he2, hm, hmo⟩ := h2
 obtain ⟨dd, he3, hd, hdo⟩ := h3
 obtain ⟨ao1, cap1, rfl⟩ := h1.shape
 obtain ⟨ao2, cap2, rfl⟩ := hm.shape
 obtain ⟨ao3, cap3, rfl⟩ := hd.shape
 have HP : Hid (md.length ≤ 30 → dd.length ≤ 30 → p.props.length ≤ 30 → (∀ q ∈ md, LightD q.1) → (∀ q ∈ dd, LightD q.1) → allLe 2000 [p.group, p.artifact, p.version, p.packaging, p.parent.group, p.parent.artifact, p.parent.version] = true → (∀ j y, j < p.props.length → p.props[j]? = some y → y.name.size ≤ 2000 ∧ y.value.size ≤ 2000) → LightP p) := by
  refine Lib.hid fun a b c d e f z => ⟨c, ?_, ?_, allLe_mem f, fun y hy => (by obtain ⟨j, hj, rfl⟩ := List.mem_iff_getElem.1 hy; exact z j _ hj (by simp [hj])), ?_, ?_⟩
  · rw [← he2]; simpa using a
  · rw [← he3]; simpa using b
  · rw [← he2]; intro x hx; obtain ⟨q, hq, rfl⟩ := List.mem_map.1 hx; exact d q hq
  · rw [← he3]; intro x hx; obtain ⟨q, hq, rfl⟩ := List.mem_map.1 hx; exact e q hq
 clear he2 he3
 obtain ⟨hpb, ⟨pg, pa, pve⟩, g, a, v, pk, pr, pm, pd⟩ := p
 simp only [pomC]
 simp only at h1 HP
 by_cases l1 : pr.length ≤ 30
 · by_cases l2 : md.length ≤ 30
   · by_cases l3 : dd.length ≤ 30
     · go_enter Tryz.func16, Tryz.ntmps16
       cases hshort : allLe 2000 [g, a, v, pk, pg, pa, pve]
       all_goals
        have Hs := Lib.hid hshort
        clear hshort
        go_wp2_with (go_at_call 50; refine (short_any [g, a, v, pk, pg, pa, pve] _ _ (sliceStrQ _ [g, a, v, pk, pg, pa, pve] _ _ (by simp) (by simp [maxLen])) (by simp)).mono ?_; rintro e w' ⟨rfl, rfl⟩; rw [Hs.out])
       · go_ret
         exact RetB.noQ (((Below.refl _ _).alloc (Nat.le_refl _) _).alloc (by simp) _)
       · go_loopw [50] (fun i wr => ∃ k : Nat, k ≤ pr.length ∧ i = .int .i64 k ∧ Below w.heap.size w wr ∧ Box wr w.heap.size [.bool hpb, .string pg, .string pa, .string pve, .string g, .string a, .string v, .string pk, .slice ao1 pr.length cap1, .slice ao2 md.length cap2, .slice ao3 dd.length cap3] ∧ Hid (∀ j y, j < k → pr[j]? = some y → y.name.size ≤ 2000 ∧ y.value.size ≤ 2000)) (fun i _ => pr.length - (intOf i).toNat)
         case atStart => exact ⟨0, Nat.zero_le _, rfl, ((Below.refl _ _).alloc (Nat.le_refl _) _).alloc (by simp) _, (Box.new w _ _ _ rfl).alloc _, fun j y hj => absurd hj (by omega)⟩
         case round =>
          obtain ⟨k, hk, rfl, hb, hx, HQR⟩ := hrel
          have hsz := hb.size
          by_cases hlt : k < pr.length
          · obtain ⟨b, o', rfl, hbl, h0, h1'⟩ := (h1.below hb).atPrp hlt
            have Hk : Hid (pr[k]? = some ⟨pr[k].name, pr[k].value⟩) := by show _ = _; simp [hlt]
            clear h1 hm hd hmo hdo HP Hs
            generalize pr[k].name = y1 at *
            generalize pr[k].value = y2 at *
            cases hshort : allLe 2000 [y1, y2]
            all_goals
             have Hs2 := Lib.hid hshort
             clear hshort
             go_wp2_with (go_at_call 50; refine (short_any [y1, y2] _ _ (sliceStrQ _ [y1, y2] _ _ (by simp) (by simp [maxLen])) (by simp)).mono ?_; rintro e w' ⟨rfl, rfl⟩; rw [Hs2.out])
            · go_ret
              exact RetB.noQ ((hb.alloc (by omega) _).alloc (by simp; omega) _)
            · go_roundw
              case rel =>
               refine ⟨k + 1, by omega, by go_num, (hb.alloc (by omega) _).alloc (by simp; omega) _, (hx.alloc _).alloc _, fun j y hj hy => ?_⟩
               rcases Nat.lt_succ_iff_lt_or_eq.1 hj with hj | rfl
               · exact HQR.out j y hj hy
               · have h9 := Hk.out.symm.trans hy; cases h9; have h8 := allLe_mem Hs2.out; exact ⟨h8 _ (by simp), h8 _ (by simp)⟩
              case measure => simp [intOf]; omega
          · have HPR : Hid (∀ j y, j < pr.length → pr[j]? = some y → y.name.size ≤ 2000 ∧ y.value.size ≤ 2000) := fun j y hj hy => HQR.out j y (by omega) hy
            have hc9 := hx.cell 9 _ rfl
            go_wp2
            go_loopw [65] (fun i wr => ∃ k : Nat, k ≤ md.length ∧ i = .int .i64 k ∧ Below w.heap.size w wr ∧ Box wr w.heap.size [.bool hpb, .string pg, .string pa, .string pve, .string g, .string a, .string v, .string pk, .slice ao1 pr.length cap1, .slice ao2 md.length cap2, .slice ao3 dd.length cap3] ∧ (∀ j q, j < k → md[j]? = some q → LightD q.1)) (fun i _ => md.length - (intOf i).toNat)
            case atStart => exact ⟨0, Nat.zero_le _, rfl, hb, hx, by simp⟩
            case round =>
             obtain ⟨k, hk, rfl, hb, hx, hq⟩ := hrel
             have hsz := hb.size
             by_cases hlt : k < md.length
             · have hok := (hmo md[k] (by simp)).below hb
               have hmk : md[k]? = some md[k] := by simp [hlt]
               obtain ⟨b, o', rfl, hbl, c0, c1, c2, c3, c4, c5, c6, c7⟩ := (hm.below hb).atDep hlt
               have Hk := Lib.hid hmk
               have HQ := Lib.hid hq
               have hxl := hx.lt
               clear h1 hm hd hmo hdo HP Hs HPR hmk hq
               generalize md[k] = q at *
               obtain ⟨qd, qx⟩ := q
               obtain ⟨ao4, cap4, rfl⟩ := hok.shape
               simp only at c0 c1 c2 c3 c4 c5 c6 c7
               go_wp2_with (go_at_call 51; refine (lightD_any qd (.slice ao4 qd.excl.length cap4) _ ?_).mono ?_; (first | exact hok.below ((Below.refl _ _).alloc (Nat.le_refl _) _)); intro e w' hR; obtain ⟨b', rfl, hbt, hbel⟩ := hR)
               · go_ret
                 exact RetB.noQ ((hb.alloc (by omega) _).trans (hbel.mono (by simp; omega)))
               · go_roundw
                 case rel =>
                  refine ⟨k + 1, by omega, by go_num, (hb.alloc (by omega) _).trans (hbel.mono (by simp; omega)), (hx.alloc _).below hbel (by simp; omega), fun j q' hj hq' => ?_⟩
                  rcases Nat.lt_succ_iff_lt_or_eq.1 hj with hj | rfl
                  · exact HQ.out j q' hj hq'
                  · have := Hk.out.symm.trans hq'; cases this; exact hbt (by first | assumption | simp_all)
                 case measure => simp [intOf]; omega

             · have hc10 := hx.cell 10 _ rfl
               have hall : ∀ q ∈ md, LightD q.1 := fun q hm' => by
                obtain ⟨j, hj, rfl⟩ := List.mem_iff_getElem.1 hm'
                exact hq j _ (by omega) (by simp [hj])
               have HM := Lib.hid hall
               clear hall hq hm hmo
               go_wp2
               go_loopw [76] (fun i wr => ∃ k : Nat, k ≤ dd.length ∧ i = .int .i64 k ∧ Below w.heap.size w wr ∧ Box wr w.heap.size [.bool hpb, .string pg, .string pa, .string pve, .string g, .string a, .string v, .string pk, .slice ao1 pr.length cap1, .slice ao2 md.length cap2, .slice ao3 dd.length cap3] ∧ (∀ j q, j < k → dd[j]? = some q → LightD q.1)) (fun i _ => dd.length - (intOf i).toNat)
               case atStart => exact ⟨0, Nat.zero_le _, rfl, hb, hx, by simp⟩
               case round =>
                clear hx hb hsz
                obtain ⟨k, hk, rfl, hb, hx, hq⟩ := hrel
                have hsz := hb.size
                by_cases hlt : k < dd.length
                · have hok := (hdo dd[k] (by simp)).below hb
                  have hmk : dd[k]? = some dd[k] := by simp [hlt]
                  obtain ⟨b, o', rfl, hbl, c0, c1, c2, c3, c4, c5, c6, c7⟩ := (hd.below hb).atDep hlt
                  have Hk := Lib.hid hmk
                  have HQ := Lib.hid hq
                  have hxl := hx.lt
                  clear h1 hd hdo HP HM Hs HPR hmk hq
                  generalize dd[k] = q at *
                  obtain ⟨qd, qx⟩ := q
                  obtain ⟨ao4, cap4, rfl⟩ := hok.shape
                  simp only at c0 c1 c2 c3 c4 c5 c6 c7
                  go_wp2_with (go_at_call 51; refine (lightD_any qd (.slice ao4 qd.excl.length cap4) _ ?_).mono ?_; (first | exact hok.below ((Below.refl _ _).alloc (Nat.le_refl _) _)); intro e w' hR; obtain ⟨b', rfl, hbt, hbel⟩ := hR)
                  · go_ret
                    exact RetB.noQ ((hb.alloc (by omega) _).trans (hbel.mono (by simp; omega)))
                  · go_roundw
                    case rel =>
                     refine ⟨k + 1, by omega, by go_num, (hb.alloc (by omega) _).trans (hbel.mono (by simp; omega)), (hx.alloc _).below hbel (by simp; omega), fun j q' hj hq' => ?_⟩
                     rcases Nat.lt_succ_iff_lt_or_eq.1 hj with hj | rfl
                     · exact HQ.out j q' hj hq'
                     · have := Hk.out.symm.trans hq'; cases this; exact hbt (by first | assumption | simp_all)
                    case measure => simp [intOf]; omega
                · have hall : ∀ q ∈ dd, LightD q.1 := fun q hm' => by
                   obtain ⟨j, hj, rfl⟩ := List.mem_iff_getElem.1 hm'
                   exact hq j _ (by omega) (by simp [hj])
                  have HD := Lib.hid hall
                  clear hall hq hd hdo
                  go_wp2
                  go_ret
                  exact RetB.yesQ (HP.out l2 l3 l1 HM.out HD.out Hs.out HPR.out) hb
     · go_enter Tryz.func16, Tryz.ntmps16
       go_wp2
       go_ret
       exact RetB.noQ ((Below.refl _ _).alloc (Nat.le_refl _) _)
   · go_enter Tryz.func16, Tryz.ntmps16
     go_wp2
     go_ret
     exact RetB.noQ ((Below.refl _ _).alloc (Nat.le_refl _) _)
 · go_enter Tryz.func16, Tryz.ntmps16
   go_wp2
   go_ret
   exact RetB.noQ ((Below.refl _ _).alloc (Nat.le_refl _) _)

end Go.Proofs.YtbbbfjcikhpmbaaGreat

/- The walk of the law PomBack; the conditions stand in the theorem. -/
namespace Go.Proofs.YtbbbfjcikhpmbaaGreat
open Go Go.RowKit

/-- A written node, each cell told. -/
def WriteG (N X : S) (t : Tr) (w : World) (e : Ending) (w' : World) : Prop := ∃ (ko : Option Addr) (kc : Nat), e = .returned (.agg #[.string N, .slice none 0 0, .slice ko t.kids.length kc, .string X]) ∧ NodeOf w' t (.slice none 0 0) (.slice ko t.kids.length kc) ∧ Below w.heap.size w w'
theorem WriteP.good {t : Tr} {w w' : World} {e : Ending} (h : WriteP t w e w') : WriteG (bs t.name) (bs t.text) t w e w' := by
 obtain ⟨kv, rfl, hn, hb⟩ := h
 obtain ⟨-, -, ko, kc, -, rfl, -, -⟩ := hn.shape
 exact ⟨ko, kc, rfl, hn, hb⟩

end Go.Proofs.YtbbbfjcikhpmbaaGreat

/- The walk of the law PomWrites; the conditions stand in the theorem. -/

namespace Go.Proofs.YtbbbfjcikhpmbaaGreat
open Go Go.RowKit

def wsUpd (N X : S) (TN : Nat) (dh : Bool) (dx dy dz dg da dv dk : S) (s1 s2 s3 : Option Addr) (lp lm ld s4 s5 s6 : Nat) (x0 x1 x3 x4 x5 x6 : Value) (f0 f1 f2 f3 f4 f5 f6 f7 f8 : Bool) (o8 : Option Addr) (c8 : Nat) (o10 : Option Addr) (c10 : Nat) : Act :=
 ⟨#[x0, x1, cond f8 (.bool true) (.bool false), x3, x4, x5, x6, cond f0 (.agg #[.bool dh, .string dx, .string dy, .string dz, .string dg, .string da, .string dv, .string dk, .slice s1 lp s4, .slice s2 lm s5, .slice s3 ld s6]) undef, cond f1 (.agg #[.string N, .slice none 0 0, .slice o8 TN c8, .string X]) undef, cond f2 (.agg #[.bool dh, .string dx, .string dy, .string dz, .string dg, .string da, .string dv, .string dk, .slice s1 lp s4, .slice s2 lm s5, .slice s3 ld s6]) undef, cond f3 (.agg #[.string N, .slice none 0 0, .slice o10 TN c10, .string X]) undef, cond f4 (.bool true) undef, cond f5 (.bool true) undef, cond f6 (.bool true) undef, cond f7 (.bool true) undef], []⟩
inductive wsJ (N X : S) (TN : Nat) (NO : World → Value → Value → Prop) (dh : Bool) (dx dy dz dg da dv dk : S) (s1 s2 s3 : Option Addr) (lp lm ld s4 s5 s6 : Nat) (V : World) (x0 x1 x3 x4 x5 x6 : Value) : Array Bool → Act → World → Prop where
 | mk (f0 f1 f2 f3 f4 f5 f6 f7 f8 : Bool) (o8 : Option Addr) (c8 : Nat) (o10 : Option Addr) (c10 : Nat) (w' : World) (ch1 : Hid (f1 = true → f0 = true)) (ch3 : Hid (f3 = true → f2 = true)) (ch4 : Hid (f4 = true → f1 = true ∧ f3 = true)) (ch5 : Hid (f5 = true → f4 = true)) (ch6 : Hid (f6 = true → f5 = true)) (ch7 : Hid (f7 = true → f5 = true ∧ f6 = true)) (ch8 : Hid (f8 = true → f7 = true)) (hB : Below V.heap.size V w') (r8 : (f1 = true → f4 = false → NO w' (.slice none 0 0) (.slice o8 TN c8))) (r10 : (f3 = true → f4 = false → NO w' (.slice none 0 0) (.slice o10 TN c10))) : wsJ N X TN NO dh dx dy dz dg da dv dk s1 s2 s3 lp lm ld s4 s5 s6 V x0 x1 x3 x4 x5 x6 #[f0, f1, f2, f3, f4, f5, f6, f7, f8] (wsUpd N X TN dh dx dy dz dg da dv dk s1 s2 s3 lp lm ld s4 s5 s6 x0 x1 x3 x4 x5 x6 f0 f1 f2 f3 f4 f5 f6 f7 f8 o8 c8 o10 c10) w'
theorem wsJ.at {N X : S} {TN : Nat} {NO : World → Value → Value → Prop} {dh : Bool} {dx dy dz dg da dv dk : S} {s1 s2 s3 : Option Addr} {lp lm ld s4 s5 s6 : Nat} {V : World} {x0 x1 x3 x4 x5 x6 : Value} {listed : Array Bool} {atx : Act} {w' : World} (f0 f1 f2 f3 f4 f5 f6 f7 f8 : Bool) (o8 : Option Addr) (c8 : Nat) (o10 : Option Addr) (c10 : Nat) (hl : listed = #[f0, f1, f2, f3, f4, f5, f6, f7, f8]) (ha : atx = wsUpd N X TN dh dx dy dz dg da dv dk s1 s2 s3 lp lm ld s4 s5 s6 x0 x1 x3 x4 x5 x6 f0 f1 f2 f3 f4 f5 f6 f7 f8 o8 c8 o10 c10) (ch1 : Hid (f1 = true → f0 = true)) (ch3 : Hid (f3 = true → f2 = true)) (ch4 : Hid (f4 = true → f1 = true ∧ f3 = true)) (ch5 : Hid (f5 = true → f4 = true)) (ch6 : Hid (f6 = true → f5 = true)) (ch7 : Hid (f7 = true → f5 = true ∧ f6 = true)) (ch8 : Hid (f8 = true → f7 = true)) (hB : Below V.heap.size V w') (r8 : (f1 = true → f4 = false → NO w' (.slice none 0 0) (.slice o8 TN c8))) (r10 : (f3 = true → f4 = false → NO w' (.slice none 0 0) (.slice o10 TN c10))) : wsJ N X TN NO dh dx dy dz dg da dv dk s1 s2 s3 lp lm ld s4 s5 s6 V x0 x1 x3 x4 x5 x6 listed atx w' := by
 subst hl ha
 exact .mk f0 f1 f2 f3 f4 f5 f6 f7 f8 o8 c8 o10 c10 w' ch1 ch3 ch4 ch5 ch6 ch7 ch8 hB r8 r10
set_option maxRecDepth 100000 in
set_option maxHeartbeats 16000000 in
theorem pomWritesLaw_any (p : Pom) (pv mv dv : Value) (mx : Int) (w : World) (hp : PomOf w (.agg (pomC p pv mv dv).toArray) p pv mv dv) (hm : w.cell? ⟨0, 0, none⟩ = some (.int .i64 mx)) :
    Calls Tryz.prog 4 #[.agg (pomC p pv mv dv).toArray] w fun e w' => e = .returned (.bool true) ∧ Below w.heap.size w w' := by
 have hw0 : 0 < w.heap.size := World.block_lt_of_cell? w _ hm
 obtain ⟨T, hT⟩ : ∃ T, T = writeT p := ⟨_, rfl⟩
 obtain ⟨N, hN⟩ : ∃ N, N = bs T.name := ⟨_, rfl⟩
 obtain ⟨X, hX⟩ : ∃ X, X = bs T.text := ⟨_, rfl⟩
 have HLV : Hid (∀ W, Below w.heap.size w W → Calls Tryz.prog 12 #[] W fun e w' => e = .returned (.bool true) ∧ Below W.heap.size W w') := fun W h => pomLives_any mx W ((h.cell (by exact hw0)).trans hm)
 have HL1 : Hid (∀ W, Below w.heap.size w W → Calls Tryz.prog 16 #[.agg (pomC p pv mv dv).toArray] W (RetB (LightP p) W)) := fun W h => lightP_any p pv mv dv W (hp.below h)
 have HWR : Hid (LightP p → ∀ W, Below w.heap.size w W → Calls Tryz.prog 18 #[.agg (pomC p pv mv dv).toArray] W (WriteG N X T W)) := fun hL W h => by
  rw [hN, hX, hT]
  exact (writeQ_any p pv mv dv W (hp.below h) (Nat.le_trans hL.props (by decide)) (Nat.le_trans hL.managed (by decide)) (Nat.le_trans hL.deps (by decide)) (fun d hd => Nat.le_trans (hL.managedL d hd).excl (by decide)) (fun d hd => Nat.le_trans (hL.depsL d hd).excl (by decide))).mono fun e w' hO => hO.good
 have HW2 : Hid (LightP p → ∀ W, Below w.heap.size w W → Calls Tryz.prog 19 #[.agg (pomC p pv mv dv).toArray] W (WriteG N X T W)) := fun hL W h => by
  rw [hN, hX, hT]
  exact (writeR_any p pv mv dv W (hp.below h) (Nat.le_trans hL.props (by decide)) (Nat.le_trans hL.managed (by decide)) (Nat.le_trans hL.deps (by decide)) (fun d hd => Nat.le_trans (hL.managedL d hd).excl (by decide)) (fun d hd => Nat.le_trans (hL.depsL d hd).excl (by decide))).mono fun e w' hO => hO.good
 have HSA : Hid (∀ W k1 k2, NodeOf W T (.slice none 0 0) k1 → NodeOf W T (.slice none 0 0) k2 → Calls Tryz.prog 17 #[.agg #[.string N, .slice none 0 0, k1, .string X], .agg #[.string N, .slice none 0 0, k2, .string X]] W fun e w' => e = .returned (.bool true) ∧ Below W.heap.size W w') := fun W k1 k2 h1 h2 => by
  rw [hN, hX]
  refine (refSame_any (SizeOf.sizeOf T) T T W _ _ _ _ (Nat.le_refl _) h1 h2).mono fun e w' hO => ?_
  obtain ⟨z, rfl, hz, hb⟩ := hO
  obtain rfl := hz.2 rfl
  exact ⟨rfl, hb⟩
 obtain ⟨-, p1, p2, p3⟩ := hp
 obtain ⟨s1, s4, rfl⟩ := p1.shape
 obtain ⟨s2, s5, rfl⟩ := p2.shape
 obtain ⟨s3, s6, rfl⟩ := p3.shape
 clear hm hw0 p1 p2 p3 hT hN hX
 obtain ⟨LP, hLP⟩ : ∃ Y : Prop, Y = LightP p := ⟨_, rfl⟩
 rw [← hLP] at HL1 HWR HW2
 clear hLP
 unfold WriteG at HWR HW2
 generalize T.kids.length = TN at *
 obtain ⟨NO, hNO⟩ : ∃ Y : World → Value → Value → Prop, Y = fun W => NodeOf W T := ⟨_, rfl⟩
 have HNK : Hid (∀ W W' av kv, NO W av kv → Below W.heap.size W W' → NO W' av kv) := fun W W' av kv h hb => by subst hNO; exact h.later hb
 have HNK : Hid (∀ W av kv W', NO W av kv → Below W.heap.size W W' → NO W' av kv) := fun W av kv W' h hb => HNK.out W W' av kv h hb
 obtain ⟨dh, ⟨dx, dy, dz⟩, dg, da, dv, dk, dp, dm, dd⟩ := p
 simp only [pomC] at HL1 HWR HW2 ⊢
 generalize dp.length = lp at *
 generalize dm.length = lm at *
 generalize dd.length = ld at *
 replace HWR : Hid (LP → ∀ W, Below w.heap.size w W → Calls Tryz.prog 18 #[.agg #[.bool dh, .string dx, .string dy, .string dz, .string dg, .string da, .string dv, .string dk, .slice s1 lp s4, .slice s2 lm s5, .slice s3 ld s6]] W fun e w' => ∃ (ko : Option Addr) (kc : Nat), e = .returned (.agg #[.string N, .slice none 0 0, .slice ko TN kc, .string X]) ∧ NO w' (.slice none 0 0) (.slice ko TN kc) ∧ Below W.heap.size W w') := by subst hNO; exact HWR
 replace HW2 : Hid (LP → ∀ W, Below w.heap.size w W → Calls Tryz.prog 19 #[.agg #[.bool dh, .string dx, .string dy, .string dz, .string dg, .string da, .string dv, .string dk, .slice s1 lp s4, .slice s2 lm s5, .slice s3 ld s6]] W fun e w' => ∃ (ko : Option Addr) (kc : Nat), e = .returned (.agg #[.string N, .slice none 0 0, .slice ko TN kc, .string X]) ∧ NO w' (.slice none 0 0) (.slice ko TN kc) ∧ Below W.heap.size W w') := by subst hNO; exact HW2
 replace HSA : Hid (∀ W k1 k2, NO W (.slice none 0 0) k1 → NO W (.slice none 0 0) k2 → Calls Tryz.prog 17 #[.agg #[.string N, .slice none 0 0, k1, .string X], .agg #[.string N, .slice none 0 0, k2, .string X]] W fun e w' => e = .returned (.bool true) ∧ Below W.heap.size W w') := by subst hNO; exact HSA
 clear hNO
 clear T
 go_enter Tryz.func4, Tryz.ntmps4
 go_upto_region 1 with fail
 refine wp_world ?_
 intro W hW
 have x1 : Box W w.heap.size [.bool dh, .string dx, .string dy, .string dz, .string dg, .string da, .string dv, .string dk, .slice s1 lp s4, .slice s2 lm s5, .slice s3 ld s6] := by rw [hW]; exact Box.new w [.bool dh, .string dx, .string dy, .string dz, .string dg, .string da, .string dv, .string dk, .slice s1 lp s4, .slice s2 lm s5, .slice s3 ld s6] _ _ rfl
 have hb : Below w.heap.size w W := by rw [hW]; exact (Below.refl _ w).alloc (Nat.le_refl _) _
 clear hW
 have HA := Lib.hid x1
 have HB := Lib.hid hb
 clear x1 hb
 obtain ⟨c0, c1, c2, c3, c4, c5, c6, c7, c8, c9, c10⟩ := bxc11 HA.out
 have cl := HA.out.lt
 go_wp2_with fail
 refine (HL1.out _ HB.out).mono ?_
 intro e w7 hO
 obtain ⟨b, rfl, hbt, hb7⟩ := hO
 have HBT := Lib.hid hbt
 have HA1 := Lib.hid (HA.out.below hb7 HA.out.lt)
 have HB1 := Lib.hid (HB.out.trans (hb7.mono HB.out.size))
 clear hbt hb7 HA HB HL1 c0 c1 c2 c3 c4 c5 c6 c7 c8 c9 c10 cl
 cases b with
 | false =>
  go_wp2_with fail
  refine (HLV.out _ HB1.out).mono ?_
  rintro e w8 ⟨rfl, hb8⟩
  have HB8 := Lib.hid (HB1.out.trans (hb8.mono HB1.out.size))
  clear hb8 HLV
  go_wp2
  go_ret
  exact ⟨rfl, HB8.out⟩
 | true =>
  have HLP := Lib.hid (HBT.out rfl)
  clear HBT
  go_upto_region 3 with fail
  refine wp_region_flags0 (wsJ N X TN NO dh dx dy dz dg da dv dk s1 s2 s3 lp lm ld s4 s5 s6 w7 _ _ _ _ _ _) (by kernel_rfl) 9 rfl (by kernel_rfl) (wsJ.at false false false false false false false false false (none) (0) (none) (0) rfl (by unfold wsUpd; rfl) ?i0 ?i1 ?i2 ?i3 ?i4 ?i5 ?i6 ?i7 ?i8 ?i9) ?fin ?step
  case i0 => exact Lib.hid (by simp)
  case i1 => exact Lib.hid (by simp)
  case i2 => exact Lib.hid (by simp)
  case i3 => exact Lib.hid (by simp)
  case i4 => exact Lib.hid (by simp)
  case i5 => exact Lib.hid (by simp)
  case i6 => exact Lib.hid (by simp)
  case i7 => exact belowN (Below.refl _ _) 1
  case i8 => exact by simp
  case i9 => exact by simp
  case fin =>
   intro a' w' hJ
   generalize hl : Array.replicate 9 true = Lz at hJ
   cases hJ with
   | mk f0 f1 f2 f3 f4 f5 f6 f7 f8 o8 c8 o10 c10 _ ch1 ch3 ch4 ch5 ch6 ch7 ch8 hB r8 r10 =>
    have hl' : [true, true, true, true, true, true, true, true, true] = [f0, f1, f2, f3, f4, f5, f6, f7, f8] := congrArg Array.toList hl
    simp only [List.cons.injEq, and_true] at hl'
    obtain ⟨rfl, rfl, rfl, rfl, rfl, rfl, rfl, rfl, rfl⟩ := hl'
    clear hl
    unfold wsUpd
    simp only [cond_true]
    have HB9 := Lib.hid (HB1.out.trans (hB.mono HB1.out.size))
    clear ch1 ch3 ch4 ch5 ch6 ch7 ch8 hB r8 r10
    go_wp2
    go_ret
    exact ⟨rfl, HB9.out⟩
  case step =>
   intro listed a' w' hJ i hi
   cases hJ with
   | mk f0 f1 f2 f3 f4 f5 f6 f7 f8 o8 c8 o10 c10 _ ch1 ch3 ch4 ch5 ch6 ch7 ch8 hB r8 r10 =>
    rw [mem_ready] at hi
    obtain ⟨hu, o, ho, ha⟩ := hi
    have hi8 : i < 9 := (Array.getElem?_eq_some_iff.1 ho).1
    rcases (by omega : i = 0 ∨ i = 1 ∨ i = 2 ∨ i = 3 ∨ i = 4 ∨ i = 5 ∨ i = 6 ∨ i = 7 ∨ i = 8) with rfl | rfl | rfl | rfl | rfl | rfl | rfl | rfl | rfl
    · have ho' := ho
      simp at hu ho
      subst hu ho
      clear ha
      have e1 : f1 = false := Bool.eq_false_iff.2 fun h => Bool.false_ne_true ((ch1.out h))
      have e4 : f4 = false := Bool.eq_false_iff.2 fun h => Bool.false_ne_true ((ch1.out (ch4.out h).1))
      have e5 : f5 = false := Bool.eq_false_iff.2 fun h => Bool.false_ne_true ((ch1.out (ch4.out (ch5.out h)).1))
      have e6 : f6 = false := Bool.eq_false_iff.2 fun h => Bool.false_ne_true ((ch1.out (ch4.out (ch5.out (ch6.out h))).1))
      have e7 : f7 = false := Bool.eq_false_iff.2 fun h => Bool.false_ne_true ((ch1.out (ch4.out (ch5.out (ch7.out h).1)).1))
      have e8 : f8 = false := Bool.eq_false_iff.2 fun h => Bool.false_ne_true ((ch1.out (ch4.out (ch5.out (ch7.out (ch8.out h)).1)).1))
      subst e1 e4 e5 e6 e7 e8
      have hB1 := hB
      have k0 := (hB.cell (p := ⟨w.heap.size, 0, none⟩) (by exact HA1.out.lt)).trans (HA1.out.cell 0 _ rfl)
      have k1 := (hB.cell (p := ⟨w.heap.size, 1, none⟩) (by exact HA1.out.lt)).trans (HA1.out.cell 1 _ rfl)
      have k2 := (hB.cell (p := ⟨w.heap.size, 2, none⟩) (by exact HA1.out.lt)).trans (HA1.out.cell 2 _ rfl)
      have k3 := (hB.cell (p := ⟨w.heap.size, 3, none⟩) (by exact HA1.out.lt)).trans (HA1.out.cell 3 _ rfl)
      have k4 := (hB.cell (p := ⟨w.heap.size, 4, none⟩) (by exact HA1.out.lt)).trans (HA1.out.cell 4 _ rfl)
      have k5 := (hB.cell (p := ⟨w.heap.size, 5, none⟩) (by exact HA1.out.lt)).trans (HA1.out.cell 5 _ rfl)
      have k6 := (hB.cell (p := ⟨w.heap.size, 6, none⟩) (by exact HA1.out.lt)).trans (HA1.out.cell 6 _ rfl)
      have k7 := (hB.cell (p := ⟨w.heap.size, 7, none⟩) (by exact HA1.out.lt)).trans (HA1.out.cell 7 _ rfl)
      have k8 := (hB.cell (p := ⟨w.heap.size, 8, none⟩) (by exact HA1.out.lt)).trans (HA1.out.cell 8 _ rfl)
      have k9 := (hB.cell (p := ⟨w.heap.size, 9, none⟩) (by exact HA1.out.lt)).trans (HA1.out.cell 9 _ rfl)
      have k10 := (hB.cell (p := ⟨w.heap.size, 10, none⟩) (by exact HA1.out.lt)).trans (HA1.out.cell 10 _ rfl)
      have kl := Nat.lt_of_lt_of_le HA1.out.lt hB.size
      refine .inl ?_
      unfold wsUpd Oper.wp
      go_simp
      exact wsJ.at true false f2 f3 false false false false false (o8) (c8) (o10) (c10) rfl rfl (Lib.hid (by simp)) (ch3) (Lib.hid (by simp)) (Lib.hid (by simp)) (Lib.hid (by simp)) (Lib.hid (by simp)) (Lib.hid (by simp)) (hB) (by simp) (r10)
    · have ho' := ho
      simp at hu ho
      subst hu ho
      simp [Region.binds] at ha
      obtain rfl : f0 = true := by simp only [ha]
      clear ha
      have e4 : f4 = false := Bool.eq_false_iff.2 fun h => Bool.false_ne_true ((ch4.out h).1)
      have e5 : f5 = false := Bool.eq_false_iff.2 fun h => Bool.false_ne_true ((ch4.out (ch5.out h)).1)
      have e6 : f6 = false := Bool.eq_false_iff.2 fun h => Bool.false_ne_true ((ch4.out (ch5.out (ch6.out h))).1)
      have e7 : f7 = false := Bool.eq_false_iff.2 fun h => Bool.false_ne_true ((ch4.out (ch5.out (ch7.out h).1)).1)
      have e8 : f8 = false := Bool.eq_false_iff.2 fun h => Bool.false_ne_true ((ch4.out (ch5.out (ch7.out (ch8.out h)).1)).1)
      subst e4 e5 e6 e7 e8
      have hS := hB.size
      refine .inl ?_
      unfold wsUpd Oper.wp
      go_simp
      refine (HWR.out HLP.out w' (HB1.out.trans (hB.mono HB1.out.size))).mono ?_
      intro e w1 hO
      obtain ⟨o1, c1, rfl, hn, hb⟩ := hO
      exact wsJ.at true true f2 f3 false false false false false (o1) (c1) (o10) (c10) rfl rfl (Lib.hid (by simp)) (ch3) (Lib.hid (by simp)) (Lib.hid (by simp)) (Lib.hid (by simp)) (Lib.hid (by simp)) (Lib.hid (by simp)) (hB.trans (hb.mono hS)) (fun h0 h1 => hn) (fun h0 h1 => HNK.out w' _ _ _ (r10 h0 h1) hb)
    · have ho' := ho
      simp at hu ho
      subst hu ho
      clear ha
      have e3 : f3 = false := Bool.eq_false_iff.2 fun h => Bool.false_ne_true ((ch3.out h))
      have e4 : f4 = false := Bool.eq_false_iff.2 fun h => Bool.false_ne_true ((ch3.out (ch4.out h).2))
      have e5 : f5 = false := Bool.eq_false_iff.2 fun h => Bool.false_ne_true ((ch3.out (ch4.out (ch5.out h)).2))
      have e6 : f6 = false := Bool.eq_false_iff.2 fun h => Bool.false_ne_true ((ch3.out (ch4.out (ch5.out (ch6.out h))).2))
      have e7 : f7 = false := Bool.eq_false_iff.2 fun h => Bool.false_ne_true ((ch3.out (ch4.out (ch5.out (ch7.out h).1)).2))
      have e8 : f8 = false := Bool.eq_false_iff.2 fun h => Bool.false_ne_true ((ch3.out (ch4.out (ch5.out (ch7.out (ch8.out h)).1)).2))
      subst e3 e4 e5 e6 e7 e8
      have hB1 := hB
      have k0 := (hB.cell (p := ⟨w.heap.size, 0, none⟩) (by exact HA1.out.lt)).trans (HA1.out.cell 0 _ rfl)
      have k1 := (hB.cell (p := ⟨w.heap.size, 1, none⟩) (by exact HA1.out.lt)).trans (HA1.out.cell 1 _ rfl)
      have k2 := (hB.cell (p := ⟨w.heap.size, 2, none⟩) (by exact HA1.out.lt)).trans (HA1.out.cell 2 _ rfl)
      have k3 := (hB.cell (p := ⟨w.heap.size, 3, none⟩) (by exact HA1.out.lt)).trans (HA1.out.cell 3 _ rfl)
      have k4 := (hB.cell (p := ⟨w.heap.size, 4, none⟩) (by exact HA1.out.lt)).trans (HA1.out.cell 4 _ rfl)
      have k5 := (hB.cell (p := ⟨w.heap.size, 5, none⟩) (by exact HA1.out.lt)).trans (HA1.out.cell 5 _ rfl)
      have k6 := (hB.cell (p := ⟨w.heap.size, 6, none⟩) (by exact HA1.out.lt)).trans (HA1.out.cell 6 _ rfl)
      have k7 := (hB.cell (p := ⟨w.heap.size, 7, none⟩) (by exact HA1.out.lt)).trans (HA1.out.cell 7 _ rfl)
      have k8 := (hB.cell (p := ⟨w.heap.size, 8, none⟩) (by exact HA1.out.lt)).trans (HA1.out.cell 8 _ rfl)
      have k9 := (hB.cell (p := ⟨w.heap.size, 9, none⟩) (by exact HA1.out.lt)).trans (HA1.out.cell 9 _ rfl)
      have k10 := (hB.cell (p := ⟨w.heap.size, 10, none⟩) (by exact HA1.out.lt)).trans (HA1.out.cell 10 _ rfl)
      have kl := Nat.lt_of_lt_of_le HA1.out.lt hB.size
      refine .inl ?_
      unfold wsUpd Oper.wp
      go_simp
      exact wsJ.at f0 f1 true false false false false false false (o8) (c8) (o10) (c10) rfl rfl (ch1) (Lib.hid (by simp)) (Lib.hid (by simp)) (Lib.hid (by simp)) (Lib.hid (by simp)) (Lib.hid (by simp)) (Lib.hid (by simp)) (hB) (r8) (by simp)
    · have ho' := ho
      simp at hu ho
      subst hu ho
      simp [Region.binds] at ha
      obtain rfl : f2 = true := by simp only [ha]
      clear ha
      have e4 : f4 = false := Bool.eq_false_iff.2 fun h => Bool.false_ne_true ((ch4.out h).2)
      have e5 : f5 = false := Bool.eq_false_iff.2 fun h => Bool.false_ne_true ((ch4.out (ch5.out h)).2)
      have e6 : f6 = false := Bool.eq_false_iff.2 fun h => Bool.false_ne_true ((ch4.out (ch5.out (ch6.out h))).2)
      have e7 : f7 = false := Bool.eq_false_iff.2 fun h => Bool.false_ne_true ((ch4.out (ch5.out (ch7.out h).1)).2)
      have e8 : f8 = false := Bool.eq_false_iff.2 fun h => Bool.false_ne_true ((ch4.out (ch5.out (ch7.out (ch8.out h)).1)).2)
      subst e4 e5 e6 e7 e8
      have hS := hB.size
      refine .inl ?_
      unfold wsUpd Oper.wp
      go_simp
      refine (HW2.out HLP.out w' (HB1.out.trans (hB.mono HB1.out.size))).mono ?_
      intro e w1 hO
      obtain ⟨o1, c1, rfl, hn, hb⟩ := hO
      exact wsJ.at f0 f1 true true false false false false false (o8) (c8) (o1) (c1) rfl rfl (ch1) (Lib.hid (by simp)) (Lib.hid (by simp)) (Lib.hid (by simp)) (Lib.hid (by simp)) (Lib.hid (by simp)) (Lib.hid (by simp)) (hB.trans (hb.mono hS)) (fun h0 h1 => HNK.out w' _ _ _ (r8 h0 h1) hb) (fun h0 h1 => hn)
    · have ho' := ho
      simp at hu ho
      subst hu ho
      simp [Region.binds] at ha
      obtain rfl : f1 = true := by simp only [ha]
      obtain rfl : f3 = true := by simp only [ha]
      clear ha
      obtain rfl : f2 = true := (ch3.out rfl)
      obtain rfl : f0 = true := (ch1.out rfl)
      have e5 : f5 = false := Bool.eq_false_iff.2 fun h => Bool.false_ne_true ((ch5.out h))
      have e6 : f6 = false := Bool.eq_false_iff.2 fun h => Bool.false_ne_true ((ch5.out (ch6.out h)))
      have e7 : f7 = false := Bool.eq_false_iff.2 fun h => Bool.false_ne_true ((ch5.out (ch7.out h).1))
      have e8 : f8 = false := Bool.eq_false_iff.2 fun h => Bool.false_ne_true ((ch5.out (ch7.out (ch8.out h)).1))
      subst e5 e6 e7 e8
      have hS := hB.size
      refine .inl ?_
      unfold wsUpd Oper.wp
      go_simp
      refine (HSA.out w' _ _ (r8 rfl rfl) (r10 rfl rfl)).mono ?_
      intro e w1 hO
      obtain ⟨rfl, hb⟩ := hO
      exact wsJ.at true true true true true false false false false (o8) (c8) (o10) (c10) rfl rfl (Lib.hid (by simp)) (Lib.hid (by simp)) (Lib.hid (by simp)) (Lib.hid (by simp)) (Lib.hid (by simp)) (Lib.hid (by simp)) (Lib.hid (by simp)) (hB.trans (hb.mono hS)) (by simp) (by simp)
    · have ho' := ho
      simp at hu ho
      subst hu ho
      simp [Region.binds] at ha
      obtain rfl : f4 = true := by simp only [ha]
      clear ha
      obtain rfl : f3 = true := (ch4.out rfl).2
      obtain rfl : f2 = true := (ch3.out (ch4.out rfl).2)
      obtain rfl : f1 = true := (ch4.out rfl).1
      obtain rfl : f0 = true := (ch1.out (ch4.out rfl).1)
      have e6 : f6 = false := Bool.eq_false_iff.2 fun h => Bool.false_ne_true ((ch6.out h))
      have e7 : f7 = false := Bool.eq_false_iff.2 fun h => Bool.false_ne_true ((ch7.out h).1)
      have e8 : f8 = false := Bool.eq_false_iff.2 fun h => Bool.false_ne_true ((ch7.out (ch8.out h)).1)
      subst e6 e7 e8
      refine .inl ?_
      unfold wsUpd Oper.wp
      go_simp
      exact wsJ.at true true true true true true false false false (o8) (c8) (o10) (c10) rfl rfl (Lib.hid (by simp)) (Lib.hid (by simp)) (Lib.hid (by simp)) (Lib.hid (by simp)) (Lib.hid (by simp)) (Lib.hid (by simp)) (Lib.hid (by simp)) (hB) (by simp) (by simp)
    · have ho' := ho
      simp at hu ho
      subst hu ho
      simp [Region.binds] at ha
      obtain rfl : f5 = true := by simp only [ha]
      clear ha
      obtain rfl : f4 = true := (ch5.out rfl)
      obtain rfl : f3 = true := (ch4.out (ch5.out rfl)).2
      obtain rfl : f2 = true := (ch3.out (ch4.out (ch5.out rfl)).2)
      obtain rfl : f1 = true := (ch4.out (ch5.out rfl)).1
      obtain rfl : f0 = true := (ch1.out (ch4.out (ch5.out rfl)).1)
      have e7 : f7 = false := Bool.eq_false_iff.2 fun h => Bool.false_ne_true ((ch7.out h).2)
      have e8 : f8 = false := Bool.eq_false_iff.2 fun h => Bool.false_ne_true ((ch7.out (ch8.out h)).2)
      subst e7 e8
      have hS := hB.size
      refine wpOp_do ho' (by rfl) ?_
      unfold wsUpd Oper.wp
      go_simp
      refine (HLV.out w' (HB1.out.trans (hB.mono HB1.out.size))).mono ?_
      rintro e w1 ⟨rfl, hb⟩
      exact wsJ.at true true true true true true true false false (o8) (c8) (o10) (c10) rfl rfl (Lib.hid (by simp)) (Lib.hid (by simp)) (Lib.hid (by simp)) (Lib.hid (by simp)) (Lib.hid (by simp)) (Lib.hid (by simp)) (Lib.hid (by simp)) (hB.trans (hb.mono hS)) (by simp) (by simp)
    · have ho' := ho
      simp at hu ho
      subst hu ho
      simp [Region.binds] at ha
      obtain rfl : f5 = true := by simp only [ha]
      obtain rfl : f6 = true := by simp only [ha]
      clear ha
      obtain rfl : f4 = true := (ch5.out rfl)
      obtain rfl : f3 = true := (ch4.out (ch5.out rfl)).2
      obtain rfl : f2 = true := (ch3.out (ch4.out (ch5.out rfl)).2)
      obtain rfl : f1 = true := (ch4.out (ch5.out rfl)).1
      obtain rfl : f0 = true := (ch1.out (ch4.out (ch5.out rfl)).1)
      have e8 : f8 = false := Bool.eq_false_iff.2 fun h => Bool.false_ne_true ((ch8.out h))
      subst e8
      refine .inl ?_
      unfold wsUpd Oper.wp
      go_simp
      exact wsJ.at true true true true true true true true false (o8) (c8) (o10) (c10) rfl rfl (Lib.hid (by simp)) (Lib.hid (by simp)) (Lib.hid (by simp)) (Lib.hid (by simp)) (Lib.hid (by simp)) (Lib.hid (by simp)) (Lib.hid (by simp)) (hB) (by simp) (by simp)
    · have ho' := ho
      simp at hu ho
      subst hu ho
      simp [Region.binds] at ha
      obtain rfl : f7 = true := by simp only [ha]
      clear ha
      obtain rfl : f6 = true := (ch7.out rfl).2
      obtain rfl : f5 = true := (ch7.out rfl).1
      obtain rfl : f4 = true := (ch5.out (ch7.out rfl).1)
      obtain rfl : f3 = true := (ch4.out (ch5.out (ch7.out rfl).1)).2
      obtain rfl : f2 = true := (ch3.out (ch4.out (ch5.out (ch7.out rfl).1)).2)
      obtain rfl : f1 = true := (ch4.out (ch5.out (ch7.out rfl).1)).1
      obtain rfl : f0 = true := (ch1.out (ch4.out (ch5.out (ch7.out rfl).1)).1)
      refine .inl ?_
      unfold wsUpd Oper.wp
      go_simp
      exact wsJ.at true true true true true true true true true (o8) (c8) (o10) (c10) rfl rfl (Lib.hid (by simp)) (Lib.hid (by simp)) (Lib.hid (by simp)) (Lib.hid (by simp)) (Lib.hid (by simp)) (Lib.hid (by simp)) (Lib.hid (by simp)) (hB) (by simp) (by simp)

end Go.Proofs.YtbbbfjcikhpmbaaGreat

/- From the readings of the arguments to what the walks ask: a project that can be read is one in memory. -/
namespace Go.Proofs.YtbbbfjcikhpmbaaGreat
open Go Go.RowKit

variable {H : Type} {enc : TypeId × Value → H} {W : World} {sp : Nat → Bool} {held : Bool}
/-- Whatever reads as type t are the cells of some a that is all right. -/
def Opens {α : Type} (enc : TypeId × Value → H) (W : World) (sp : Nat → Bool) (held : Bool) (t : TypeId) (C : α → List Value) (Ok : α → Prop) : Prop :=
 ∀ fuel cs x, DataW.trod enc Tryz.prog W 0 sp held fuel t cs = some x → ∃ a, cs = C a ∧ Ok a
theorem opens_string : Opens enc W sp held 9 strC (fun s => s.size ≤ maxLen) := fun _ _ _ h => by
 obtain ⟨s, h1, -, h2⟩ := DataW.trod_string Tryz.underlying9 h
 exact ⟨s, h1, h2⟩
theorem opens_int : Opens enc W sp held 3 (fun n => [.int .i64 n]) (fun n => (Lit.int .i64 n).wf = true) := fun _ _ _ h => by
 obtain ⟨s, h1, -, h2⟩ := DataW.trod_int Tryz.underlying3 h
 exact ⟨s, h1, h2⟩
theorem opens_bool : Opens enc W sp held 4 (fun n => [.bool n]) (fun _ => True) := fun _ _ _ h => by
 obtain ⟨s, h1, -⟩ := DataW.trod_bool Tryz.underlying4 h
 exact ⟨s, h1, trivial⟩
theorem cells_of {w : World} {a : Addr} {n : Nat} {cs : List Value} (h : w.cells? 0 a n = some cs) (hn : 0 < n) : cs.length = n ∧ a.spot = none ∧ a.block < w.heap.size ∧ ∀ j u, cs[j]? = some u → w.cell? ⟨a.block, a.off + j, none⟩ = some u := by
 unfold World.cells? at h
 rw [if_pos (Nat.zero_le _)] at h
 have hl : cs.length = n := by simpa using mapM_some_length h
 have hg : ∀ j, j < n → w.cell? (a.add j) = cs[j]? := fun j hj => mapM_some_get h j j (by simp [hj])
 have h00 : w.cell? a = some cs[0] := by
  have := hg 0 hn
  rw [show a.add 0 = a from rfl] at this
  rw [this]; simp
 have hsp : a.spot = none := by
  cases hs : a.spot with
  | none => rfl
  | some x =>
   exfalso
   simp only [World.cell?, hs, Option.isSome_some, if_true] at h00
   split at h00 <;> cases h00
 obtain ⟨b, o, s⟩ := a
 cases hsp
 refine ⟨hl, rfl, World.block_lt_of_cell? w _ h00, fun j u hu => ?_⟩
 have hj : j < n := by rw [← hl]; exact (List.getElem?_eq_some_iff.1 hu).1
 have := hg j hj
 rw [Addr.add_lit, hu] at this
 exact this
theorem list_snoc {α : Type} {l : List α} {y : α} {i : Nat} {z : α} (h : (l ++ [y])[i]? = some z) : (i < l.length ∧ l[i]? = some z) ∨ (i = l.length ∧ z = y) := by
 by_cases hi : i < l.length
 · left; rw [List.getElem?_append_left hi] at h; exact ⟨hi, h⟩
 · right
   rw [List.getElem?_append_right (by omega)] at h
   by_cases h1 : i - l.length = 0
   · rw [h1] at h; simp at h; exact ⟨by omega, h.symm⟩
   · rw [List.getElem?_eq_none (by simp; omega)] at h; cases h
theorem list_of {α : Type} {len : Nat} {P : Nat → α → Prop} (h : ∀ i, i < len → ∃ y, P i y) : ∃ l : List α, l.length = len ∧ ∀ i y, l[i]? = some y → P i y := by
 induction len with
 | zero => exact ⟨[], rfl, fun i y h => by simp at h⟩
 | succ len ih =>
  obtain ⟨l, hl, hP⟩ := ih (fun i hi => h i (by omega))
  obtain ⟨y, hy⟩ := h len (by omega)
  refine ⟨l ++ [y], by simp [hl], fun i z hz => ?_⟩
  rcases list_snoc hz with ⟨-, h1⟩ | ⟨rfl, rfl⟩
  · exact hP i z h1
  · rw [hl]; exact hy
theorem opens_slice {α : Type} {t e n : Nat} {C : α → List Value} {Ok : α → Prop} (ht : Tryz.prog.underlying t = some (.slice e)) (hn : Tryz.prog.cellsOf e = n) (h0 : 0 < n) (he : Opens enc W sp held e C Ok) :
    Opens enc W sp held t (fun v : Value => [v]) (fun v => ∃ l, SliceOf n C W v l ∧ ∀ a ∈ l, Ok a) := fun fuel cs x h => by
 rcases Deep.open_slice ht h with ⟨rfl, -⟩ | ⟨a, len, cap, m, n', D, Pl, rfl, -, hlc, hcm, hm, -, hel⟩
 · exact ⟨_, rfl, [], SliceOf.nil, by simp⟩
 · rw [hn] at hel
   have hlm : len ≤ m := by rw [hm]; split <;> omega
   obtain ⟨l, hl, hP⟩ := list_of (len := len) (P := fun i y => W.cells? 0 (a.add (i * n)) n = some (C y) ∧ Ok y) (fun i hi => by
    obtain ⟨cs', h1, h2⟩ := hel i (by omega)
    obtain ⟨y, rfl, hy⟩ := he _ _ _ h2
    exact ⟨y, h1, hy⟩)
   refine ⟨_, rfl, l, ⟨some a, cap, by rw [hl], by omega, hcm, by simp, fun i y hy => ?_⟩, fun y hy => ?_⟩
   · have hil : i < len := by rw [← hl]; exact (List.getElem?_eq_some_iff.1 hy).1
     obtain ⟨y0, hy0⟩ : ∃ y0, l[0]? = some y0 := ⟨l[0]'(by omega), by simp⟩
     obtain ⟨-, hs, hb, -⟩ := cells_of (hP 0 y0 hy0).1 h0
     rw [Nat.zero_mul, show a.add 0 = a from rfl] at hs hb
     obtain ⟨b, o, s⟩ := a
     cases hs
     obtain ⟨-, -, -, hc⟩ := cells_of (hP i y hy).1 h0
     rw [Addr.add_lit] at hc
     exact ⟨b, o, rfl, hb, hc⟩
   · obtain ⟨i, hi, rfl⟩ := List.mem_iff_getElem.1 hy
     exact (hP i _ (by simp [hi])).2
theorem cellsOf_str : Tryz.prog.cellsOf 9 = 1 := by kernel_rfl
theorem cellsOf_int : Tryz.prog.cellsOf 3 = 1 := by kernel_rfl
theorem cellsOf_bool : Tryz.prog.cellsOf 4 = 1 := by kernel_rfl
theorem cellsOf_id : Tryz.prog.cellsOf 52 = 2 := by kernel_rfl
theorem cellsOf_prp : Tryz.prog.cellsOf 55 = 2 := by kernel_rfl
theorem cellsOf_gav : Tryz.prog.cellsOf 29 = 3 := by kernel_rfl
theorem cellsOf_dep : Tryz.prog.cellsOf 48 = 8 := by kernel_rfl
theorem cellsOf_pom : Tryz.prog.cellsOf 33 = 11 := by kernel_rfl
theorem cellsOf_ids : Tryz.prog.cellsOf 46 = 1 := by kernel_rfl
theorem cellsOf_prps : Tryz.prog.cellsOf 30 = 1 := by kernel_rfl
theorem cellsOf_deps : Tryz.prog.cellsOf 31 = 1 := by kernel_rfl
theorem len2 {l : List Value} (h : l.length = 2) : ∃ c0 c1, l = [c0, c1] := by
 match l, h with
 | [c0, c1], _ => exact ⟨c0, c1, rfl⟩
theorem len3 {l : List Value} (h : l.length = 3) : ∃ c0 c1 c2, l = [c0, c1, c2] := by
 match l, h with
 | [c0, c1, c2], _ => exact ⟨c0, c1, c2, rfl⟩
theorem len8 {l : List Value} (h : l.length = 8) : ∃ c0 c1 c2 c3 c4 c5 c6 c7, l = [c0, c1, c2, c3, c4, c5, c6, c7] := by
 match l, h with
 | [c0, c1, c2, c3, c4, c5, c6, c7], _ => exact ⟨c0, c1, c2, c3, c4, c5, c6, c7, rfl⟩
theorem len11 {l : List Value} (h : l.length = 11) : ∃ c0 c1 c2 c3 c4 c5 c6 c7 c8 c9 c10, l = [c0, c1, c2, c3, c4, c5, c6, c7, c8, c9, c10] := by
 match l, h with
 | [c0, c1, c2, c3, c4, c5, c6, c7, c8, c9, c10], _ => exact ⟨c0, c1, c2, c3, c4, c5, c6, c7, c8, c9, c10, rfl⟩
theorem opens_id : Opens enc W sp held 52 idC (fun _ => True) := fun fuel cs x h => by
 obtain ⟨xs, n, -, -, hl, hxs, hf⟩ := DataW.trod_struct Tryz.underlying52 h
 rw [cellsOf_id] at hl
 obtain ⟨c0, c1, rfl⟩ := len2 hl
 have f0 : DataW.trod enc Tryz.prog W 0 sp held n 9 (([c0, c1].drop 0).take (Tryz.prog.cellsOf 9)) = xs[0]? := hf 0 _ rfl
 rw [cellsOf_str, List.getElem?_eq_getElem (by rw [hxs]; decide)] at f0
 have f1 : DataW.trod enc Tryz.prog W 0 sp held n 9 (([c0, c1].drop 1).take (Tryz.prog.cellsOf 9)) = xs[1]? := hf 1 _ rfl
 rw [cellsOf_str, List.getElem?_eq_getElem (by rw [hxs]; decide)] at f1
 obtain ⟨a0, h0, k0⟩ := opens_string _ _ _ f0
 obtain ⟨a1, h1, k1⟩ := opens_string _ _ _ f1
 clear hf f0 f1
 cases h0
 cases h1
 exact ⟨⟨a0, a1⟩, rfl, trivial⟩
theorem opens_prp : Opens enc W sp held 55 prpC (fun _ => True) := fun fuel cs x h => by
 obtain ⟨xs, n, -, -, hl, hxs, hf⟩ := DataW.trod_struct Tryz.underlying55 h
 rw [cellsOf_prp] at hl
 obtain ⟨c0, c1, rfl⟩ := len2 hl
 have f0 : DataW.trod enc Tryz.prog W 0 sp held n 9 (([c0, c1].drop 0).take (Tryz.prog.cellsOf 9)) = xs[0]? := hf 0 _ rfl
 rw [cellsOf_str, List.getElem?_eq_getElem (by rw [hxs]; decide)] at f0
 have f1 : DataW.trod enc Tryz.prog W 0 sp held n 9 (([c0, c1].drop 1).take (Tryz.prog.cellsOf 9)) = xs[1]? := hf 1 _ rfl
 rw [cellsOf_str, List.getElem?_eq_getElem (by rw [hxs]; decide)] at f1
 obtain ⟨a0, h0, k0⟩ := opens_string _ _ _ f0
 obtain ⟨a1, h1, k1⟩ := opens_string _ _ _ f1
 clear hf f0 f1
 cases h0
 cases h1
 exact ⟨⟨a0, a1⟩, rfl, trivial⟩
theorem opens_gav : Opens enc W sp held 29 gavC (fun _ => True) := fun fuel cs x h => by
 obtain ⟨xs, n, -, -, hl, hxs, hf⟩ := DataW.trod_struct Tryz.underlying29 h
 rw [cellsOf_gav] at hl
 obtain ⟨c0, c1, c2, rfl⟩ := len3 hl
 have f0 : DataW.trod enc Tryz.prog W 0 sp held n 9 (([c0, c1, c2].drop 0).take (Tryz.prog.cellsOf 9)) = xs[0]? := hf 0 _ rfl
 rw [cellsOf_str, List.getElem?_eq_getElem (by rw [hxs]; decide)] at f0
 have f1 : DataW.trod enc Tryz.prog W 0 sp held n 9 (([c0, c1, c2].drop 1).take (Tryz.prog.cellsOf 9)) = xs[1]? := hf 1 _ rfl
 rw [cellsOf_str, List.getElem?_eq_getElem (by rw [hxs]; decide)] at f1
 have f2 : DataW.trod enc Tryz.prog W 0 sp held n 9 (([c0, c1, c2].drop 2).take (Tryz.prog.cellsOf 9)) = xs[2]? := hf 2 _ rfl
 rw [cellsOf_str, List.getElem?_eq_getElem (by rw [hxs]; decide)] at f2
 obtain ⟨a0, h0, k0⟩ := opens_string _ _ _ f0
 obtain ⟨a1, h1, k1⟩ := opens_string _ _ _ f1
 obtain ⟨a2, h2, k2⟩ := opens_string _ _ _ f2
 clear hf f0 f1 f2
 cases h0
 cases h1
 cases h2
 exact ⟨⟨a0, a1, a2⟩, rfl, trivial⟩
theorem opens_ids : Opens enc W sp held 46 (fun v : Value => [v]) (fun v => ∃ l, SliceOf 2 idC W v l ∧ ∀ a ∈ l, True) := opens_slice Tryz.underlying46 cellsOf_id (by decide) opens_id
theorem opens_prps : Opens enc W sp held 30 (fun v : Value => [v]) (fun v => ∃ l, SliceOf 2 prpC W v l ∧ ∀ a ∈ l, True) := opens_slice Tryz.underlying30 cellsOf_prp (by decide) opens_prp
theorem opens_dep : Opens enc W sp held 48 depC (DepOk W) := fun fuel cs x h => by
 obtain ⟨xs, n, -, -, hl, hxs, hf⟩ := DataW.trod_struct Tryz.underlying48 h
 rw [cellsOf_dep] at hl
 obtain ⟨c0, c1, c2, c3, c4, c5, c6, c7, rfl⟩ := len8 hl
 have f0 : DataW.trod enc Tryz.prog W 0 sp held n 9 (([c0, c1, c2, c3, c4, c5, c6, c7].drop 0).take (Tryz.prog.cellsOf 9)) = xs[0]? := hf 0 _ rfl
 rw [cellsOf_str, List.getElem?_eq_getElem (by rw [hxs]; decide)] at f0
 have f1 : DataW.trod enc Tryz.prog W 0 sp held n 9 (([c0, c1, c2, c3, c4, c5, c6, c7].drop 1).take (Tryz.prog.cellsOf 9)) = xs[1]? := hf 1 _ rfl
 rw [cellsOf_str, List.getElem?_eq_getElem (by rw [hxs]; decide)] at f1
 have f2 : DataW.trod enc Tryz.prog W 0 sp held n 9 (([c0, c1, c2, c3, c4, c5, c6, c7].drop 2).take (Tryz.prog.cellsOf 9)) = xs[2]? := hf 2 _ rfl
 rw [cellsOf_str, List.getElem?_eq_getElem (by rw [hxs]; decide)] at f2
 have f3 : DataW.trod enc Tryz.prog W 0 sp held n 9 (([c0, c1, c2, c3, c4, c5, c6, c7].drop 3).take (Tryz.prog.cellsOf 9)) = xs[3]? := hf 3 _ rfl
 rw [cellsOf_str, List.getElem?_eq_getElem (by rw [hxs]; decide)] at f3
 have f4 : DataW.trod enc Tryz.prog W 0 sp held n 9 (([c0, c1, c2, c3, c4, c5, c6, c7].drop 4).take (Tryz.prog.cellsOf 9)) = xs[4]? := hf 4 _ rfl
 rw [cellsOf_str, List.getElem?_eq_getElem (by rw [hxs]; decide)] at f4
 have f5 : DataW.trod enc Tryz.prog W 0 sp held n 3 (([c0, c1, c2, c3, c4, c5, c6, c7].drop 5).take (Tryz.prog.cellsOf 3)) = xs[5]? := hf 5 _ rfl
 rw [cellsOf_int, List.getElem?_eq_getElem (by rw [hxs]; decide)] at f5
 have f6 : DataW.trod enc Tryz.prog W 0 sp held n 3 (([c0, c1, c2, c3, c4, c5, c6, c7].drop 6).take (Tryz.prog.cellsOf 3)) = xs[6]? := hf 6 _ rfl
 rw [cellsOf_int, List.getElem?_eq_getElem (by rw [hxs]; decide)] at f6
 have f7 : DataW.trod enc Tryz.prog W 0 sp held n 46 (([c0, c1, c2, c3, c4, c5, c6, c7].drop 7).take (Tryz.prog.cellsOf 46)) = xs[7]? := hf 7 _ rfl
 rw [cellsOf_ids, List.getElem?_eq_getElem (by rw [hxs]; decide)] at f7
 obtain ⟨a0, h0, k0⟩ := opens_string _ _ _ f0
 obtain ⟨a1, h1, k1⟩ := opens_string _ _ _ f1
 obtain ⟨a2, h2, k2⟩ := opens_string _ _ _ f2
 obtain ⟨a3, h3, k3⟩ := opens_string _ _ _ f3
 obtain ⟨a4, h4, k4⟩ := opens_string _ _ _ f4
 obtain ⟨a5, h5, k5⟩ := opens_int _ _ _ f5
 obtain ⟨a6, h6, k6⟩ := opens_int _ _ _ f6
 obtain ⟨a7, h7, k7⟩ := opens_ids _ _ _ f7
 clear hf f0 f1 f2 f3 f4 f5 f6 f7
 cases h0
 cases h1
 cases h2
 cases h3
 cases h4
 cases h5
 cases h6
 cases h7
 exact ⟨(⟨a0, a1, a2, a3, a4, a5, a6, k7.choose⟩, _), rfl, k7.choose_spec.1⟩
theorem opens_deps : Opens enc W sp held 31 (fun v : Value => [v]) (fun v => ∃ l, SliceOf 8 depC W v l ∧ ∀ a ∈ l, DepOk W a) := opens_slice Tryz.underlying31 cellsOf_dep (by decide) opens_dep
theorem opens_pom : Opens enc W sp held 33 (fun q : Pom × Value × Value × Value => pomC q.1 q.2.1 q.2.2.1 q.2.2.2) (fun q => PomOf W (.agg (pomC q.1 q.2.1 q.2.2.1 q.2.2.2).toArray) q.1 q.2.1 q.2.2.1 q.2.2.2) := fun fuel cs x h => by
 obtain ⟨xs, n, -, -, hl, hxs, hf⟩ := DataW.trod_struct Tryz.underlying33 h
 rw [cellsOf_pom] at hl
 obtain ⟨c0, c1, c2, c3, c4, c5, c6, c7, c8, c9, c10, rfl⟩ := len11 hl
 have f0 : DataW.trod enc Tryz.prog W 0 sp held n 4 (([c0, c1, c2, c3, c4, c5, c6, c7, c8, c9, c10].drop 0).take (Tryz.prog.cellsOf 4)) = xs[0]? := hf 0 _ rfl
 rw [cellsOf_bool, List.getElem?_eq_getElem (by rw [hxs]; decide)] at f0
 have f1 : DataW.trod enc Tryz.prog W 0 sp held n 29 (([c0, c1, c2, c3, c4, c5, c6, c7, c8, c9, c10].drop 1).take (Tryz.prog.cellsOf 29)) = xs[1]? := hf 1 _ rfl
 rw [cellsOf_gav, List.getElem?_eq_getElem (by rw [hxs]; decide)] at f1
 have f2 : DataW.trod enc Tryz.prog W 0 sp held n 9 (([c0, c1, c2, c3, c4, c5, c6, c7, c8, c9, c10].drop 4).take (Tryz.prog.cellsOf 9)) = xs[2]? := hf 2 _ rfl
 rw [cellsOf_str, List.getElem?_eq_getElem (by rw [hxs]; decide)] at f2
 have f3 : DataW.trod enc Tryz.prog W 0 sp held n 9 (([c0, c1, c2, c3, c4, c5, c6, c7, c8, c9, c10].drop 5).take (Tryz.prog.cellsOf 9)) = xs[3]? := hf 3 _ rfl
 rw [cellsOf_str, List.getElem?_eq_getElem (by rw [hxs]; decide)] at f3
 have f4 : DataW.trod enc Tryz.prog W 0 sp held n 9 (([c0, c1, c2, c3, c4, c5, c6, c7, c8, c9, c10].drop 6).take (Tryz.prog.cellsOf 9)) = xs[4]? := hf 4 _ rfl
 rw [cellsOf_str, List.getElem?_eq_getElem (by rw [hxs]; decide)] at f4
 have f5 : DataW.trod enc Tryz.prog W 0 sp held n 9 (([c0, c1, c2, c3, c4, c5, c6, c7, c8, c9, c10].drop 7).take (Tryz.prog.cellsOf 9)) = xs[5]? := hf 5 _ rfl
 rw [cellsOf_str, List.getElem?_eq_getElem (by rw [hxs]; decide)] at f5
 have f6 : DataW.trod enc Tryz.prog W 0 sp held n 30 (([c0, c1, c2, c3, c4, c5, c6, c7, c8, c9, c10].drop 8).take (Tryz.prog.cellsOf 30)) = xs[6]? := hf 6 _ rfl
 rw [cellsOf_prps, List.getElem?_eq_getElem (by rw [hxs]; decide)] at f6
 have f7 : DataW.trod enc Tryz.prog W 0 sp held n 31 (([c0, c1, c2, c3, c4, c5, c6, c7, c8, c9, c10].drop 9).take (Tryz.prog.cellsOf 31)) = xs[7]? := hf 7 _ rfl
 rw [cellsOf_deps, List.getElem?_eq_getElem (by rw [hxs]; decide)] at f7
 have f8 : DataW.trod enc Tryz.prog W 0 sp held n 31 (([c0, c1, c2, c3, c4, c5, c6, c7, c8, c9, c10].drop 10).take (Tryz.prog.cellsOf 31)) = xs[8]? := hf 8 _ rfl
 rw [cellsOf_deps, List.getElem?_eq_getElem (by rw [hxs]; decide)] at f8
 obtain ⟨a0, h0, k0⟩ := opens_bool _ _ _ f0
 obtain ⟨a1, h1, k1⟩ := opens_gav _ _ _ f1
 obtain ⟨a2, h2, k2⟩ := opens_string _ _ _ f2
 obtain ⟨a3, h3, k3⟩ := opens_string _ _ _ f3
 obtain ⟨a4, h4, k4⟩ := opens_string _ _ _ f4
 obtain ⟨a5, h5, k5⟩ := opens_string _ _ _ f5
 obtain ⟨a6, h6, k6⟩ := opens_prps _ _ _ f6
 obtain ⟨a7, h7, k7⟩ := opens_deps _ _ _ f7
 obtain ⟨a8, h8, k8⟩ := opens_deps _ _ _ f8
 clear hf f0 f1 f2 f3 f4 f5 f6 f7 f8
 cases h0
 cases h1
 cases h2
 cases h3
 cases h4
 cases h5
 cases h6
 cases h7
 cases h8
 exact ⟨(⟨a0, a1, a2, a3, a4, a5, k6.choose, k7.choose.map (·.1), k8.choose.map (·.1)⟩, _, _, _), rfl, rfl, k6.choose_spec.1, ⟨k7.choose, rfl, k7.choose_spec⟩, ⟨k8.choose, rfl, k8.choose_spec⟩⟩

end Go.Proofs.YtbbbfjcikhpmbaaGreat

/- From a walk to a row: a law that returns true and turns nothing that was there. -/
namespace Go.Proofs.YtbbbfjcikhpmbaaGreat
open Go Go.ChangeShapes Go.WideShapes Go.ChangeAt Go.RowKit

theorem own : ownKnob Tryz.prog.godebug = none := by kernel_rfl
theorem laidOut : laidOutB Tryz.prog = true := by kernel_rfl
theorem trodAll_below {H : Type} {enc : TypeId × Value → H} {W W' : World} (hb : Below W.heap.size W W') : ∀ {ts : List TypeId} {vs : List Value} {ds : List (DataW H)} {ps : List MemPlace},
    (∀ t ∈ ts, Tryz.prog.readableRec t = true ∧ t < Tryz.prog.types.size) → DataW.TrodAll enc Tryz.prog W 0 (fun _ => true) true ts vs ds ps → (∀ x ∈ ps, x.block < W.heap.size) →
    DataW.TrodAll enc Tryz.prog W' 0 (fun b => decide (b < W.heap.size)) true ts vs ds ps
 | [], [], [], _, _, h, _ => h
 | t :: ts, v :: vs, d :: ds, ps, hr, h, hlt => by
  obtain ⟨p, q, h1, h2, rfl⟩ := h
  exact ⟨p, q, Below.trod laidOut (hr t (by simp)).1 (hr t (by simp)).2 h1 hb (fun x hx => hlt x (by simp [hx])),
   trodAll_below hb (fun u hu => hr u (by simp [hu])) h2 (fun x hx => hlt x (by simp [hx])), rfl⟩
 | [], [], _ :: _, _, _, h, _ => h.elim
 | [], _ :: _, _, _, _, h, _ => h.elim
 | _ :: _, [], _, _, _, h, _ => h.elim
 | _ :: _, _ :: _, [], _, _, h, _ => h.elim

end Go.Proofs.YtbbbfjcikhpmbaaGreat

/- Whatever the input, the law PomWrites returns true, and its arguments read behind the call as before; no conditions. -/
namespace Go.Proofs.YtbbbfjcikhpmbaaGreat
open Go Go.ChangeShapes Go.WideShapes Go.ChangeAt Go.RowKit Go.ChangeMaps

theorem rt_pom : Tryz.prog.readableRec 33 = true := by kernel_rfl
theorem lt_pom : 33 < Tryz.prog.types.size := of_decide_eq_true (by kernel_rfl)
set_option maxRecDepth 100000 in
theorem open_pom {H : Type} {enc : TypeId × Value → H} {W : World} {base : Nat} {v : Value} {d : DataW H} {p : List MemPlace} (hval : Value.okWide Tryz.prog W .any base 33 v)
    (h : DataW.Trod enc Tryz.prog W 0 (fun _ => true) true 33 v d p) : ∃ c pv mv dv, v = .agg (pomC c pv mv dv).toArray ∧ PomOf W (.agg (pomC c pv mv dv).toArray) c pv mv dv := by
 obtain ⟨fuel, hf⟩ := h
 obtain ⟨⟨c, pv, mv, dv⟩, hcs, hok⟩ := opens_pom _ _ _ hf
 refine ⟨c, pv, mv, dv, ?_, hok⟩
 simp only [Value.okWide, Tryz.underlying33] at hval
 obtain ⟨cs, rfl, -⟩ := hval
 simp only [Value.cells] at hcs
 rw [← hcs]
set_option maxRecDepth 100000 in
theorem pomWrites_lifted (os : Os) (started : os.Started) (H : Type) (enc : TypeId × Value → H) :
    ReturnsInHanded {} Tryz.checked os 4 .any (Rows.pomWritesSpec.pre6 enc Tryz.prog Tryz.f4 Rows.pomWritesRow.domain false) (Rows.pomWritesSpec.post enc Tryz.prog Tryz.f4 false true false false) := by
 refine returnsInHanded_of_change_shaped (C := Tryz.checked) own started (by kernel_rfl) Tryz.func4
  (ChangeSpec.witness6 (enc := enc) (C := Tryz.checked) false ⟨#[], #[.agg #[.bool false, .string .empty, .string .empty, .string .empty, .string .empty, .string .empty, .string .empty, .string .empty, .slice none 0 0, .slice none 0 0, .slice none 0 0]], []⟩ 8 (by kernel_rfl) (by kernel_rfl) (by kernel_rfl) (by kernel_rfl)) ?_
 intro W base args ds gs before hval0 hW hcnd _ hsh _
 have hval : ∀ (j : Nat) t v, Tryz.f4.params[j]? = some t → args[j]? = some v → Value.okWide Tryz.prog W .any base t v := hval0
 have hW' := hW
 obtain ⟨p, q, hA0, hV, rfl, hfz, hnd⟩ := hW
 have hA : DataW.TrodAll enc Tryz.prog W 0 (fun _ => true) true Tryz.f4.params.toList args.toList ds p := hA0
 have hA' := hA
 rw [Tryz.params4] at hA hval
 obtain ⟨v0, d0, rfl, rfl, h0⟩ := trodAll_one hA
 obtain ⟨rfl, rfl⟩ := trodVars_none hV
 obtain ⟨c0, pv0, mv0, dv0, rfl, hc0⟩ := open_pom (hval 0 33 v0 rfl rfl) h0
 clear hA0 hval0
 obtain ⟨m, hm⟩ : ∃ m, W.cell? ⟨0, 0, none⟩ = some (.int .i64 m) := Tryz.laysM219.s1_3 W hsh
 have hlt : ∀ x ∈ p, x.block < W.heap.size := fun x hx => by simpa using hW'.lt x (by simpa using hx)
 refine (pomWritesLaw_any c0 pv0 mv0 dv0 m W hc0 hm).mono fun en W' ⟨he, hb⟩ => ?_
 subst he
 refine ⟨_, rfl, _, _, _, [], p, [], hW', trodAll_mk1 (shut_bool Tryz.underlying4 _), trodAll_below hb ?_ hA' hlt, rfl, hb.frame _, fun h => by cases h⟩
 rw [Tryz.params4]
 intro t ht
 simp at ht
 subst ht
 exact ⟨rt_pom, lt_pom⟩
theorem pomWrites_holds : Rows.PomWritesSaid :=
 OpenClaim.holds_of_wide 4 Tryz.f4 rfl rfl rfl rfl rfl rfl rfl ⟨rfl, rfl, rfl, rfl, rfl⟩ rfl rfl rfl rfl rfl (by kernel_rfl) Tryz.func4 (by kernel_rfl)
  (of_decide_eq_true (by kernel_rfl)) (by unfold Func.isWrapper; rw [if_neg (of_decide_eq_false (by kernel_rfl))]; exact ⟨rfl, rfl⟩)
  (fun os started H enc _ => pomWrites_lifted os started H enc)

#print axioms pomWrites_holds

end Go.Proofs.YtbbbfjcikhpmbaaGreat
