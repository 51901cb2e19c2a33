/- Plain law: a tag of any names and values is read as these; no program in sight. -/
import Derived.Test.YtecffghcpknmjaaGreatDoorJK08
import Derived.Test.YtecffghcpknmjaaGreatDoorJK04
import Derived.Test.YtecffghcpknmjaaGreatDoorJK05
import Derived.Test.YtecffghcpknmjaaGreatDoorJK06
import Derived.Test.YtecffghcpknmjaaGreatDoorJK07
import Derived.Test.YtecffghcpknmjaaGreatDoorOwn2
import Derived.Test.YtecffghcpknmjaaGreatDoorQB
import Derived.Test.YtecffghcpknmjaaGreatDoorG2
import Derived.Test.YtecffghcpknmjaaGreatDoorK19
import Derived.Test.YtecffghcpknmjaaGreatDoorK4
import Derived.Test.YtecffghcpknmjaaGreatDoorR0
import Derived.Test.YtecffghcpknmjaaGreatDoorL0
import Derived.Test.YtecffghcpknmjaaGreatDoorSB
import Derived.Deep.RegionHeld3
namespace Go.Proofs.YtecffghcpknmjaaGreatDoor
open Go Go.RowKit
structure GoodA (a:At2):Prop where
 name:nameLen a.1=a.1.length
 ne:a.1≠[]
 text : ∀ c ∈ a.2,cText c=true
def attT (q:Bool) (a:At2):Bs:=if q then 10::(a.1 ++ (32::61::9::39::(aposR (esc true a.2) ++ [39]))) else 32::(a.1 ++ (61::34::(esc true a.2 ++ [34])))
theorem span_all {p:UInt8→Bool} {n:Bs} (h:span p n=n.length) {c:UInt8} (hc:p c=false) (r:Bs):span p (n ++ c::r)=n.length:=by
 induction n with
 | nil=>simp [span,hc]
 | cons x n ih =>
  simp only [span] at h;by_cases hx:p x=true
  · rw [if_pos hx] at h
    simp only [List.cons_append,span];rw [if_pos hx,ih (by simpa using h)]; rfl
  · rw [if_neg hx] at h; simp at h
theorem name_all {n:Bs} (h:nameLen n=n.length) (hne:n≠[]) {c:UInt8} (hc:cName c=false) (r:Bs):nameLen (n ++ c::r)=n.length:=by
 cases n with
 | nil=>exact absurd rfl hne
 | cons x n =>
  simp only [List.cons_append,nameLen] at h ⊢;by_cases hx:cFirst x=true
  · rw [if_pos hx] at h ⊢
    exact span_all (n:=x::n) h hc r
  · rw [if_neg hx] at h; simp at h
theorem name_first {n:Bs} (h:nameLen n=n.length) (hne:n≠[]) : ∃ c r,n=c::r∧cFirst c=true:=by
 cases n with
 | nil=>exact absurd rfl hne
 | cons x n =>
  simp only [nameLen] at h;by_cases hx:cFirst x=true
  · exact ⟨x,n,rfl,hx⟩
  · rw [if_neg hx] at h; simp at h
theorem nameR_all {e:Int} {n:Bs} (h:nameLen n=n.length) (hne:n≠[]) {c:UInt8} (hc:cName c=false) (r:Bs):nameR e (n ++ c::r) = .ok n (c::r):=by
 have h1:=name_all h hne hc r;obtain ⟨x,m,rfl,-⟩:=name_first h hne;simp only [List.cons_append,nameR] at h1 ⊢;rw [if_neg (by rw [h1]; simp),h1];congr 1
 · show ((x::m) ++ c::r).take _=_; rw [List.take_left]
 · show ((x::m) ++ c::r).drop _=_; rw [List.drop_left]
theorem first_blank {c:UInt8} (h:cFirst c=true):cBlank c=false∧c≠47∧c≠62∧c≠33∧c≠63:=by
 have h2 : ∀ n:Fin 256,cFirst (UInt8.ofNat n)=true→cBlank (UInt8.ofNat n)=false∧UInt8.ofNat n≠47∧UInt8.ofNat n≠62∧UInt8.ofNat n≠33∧UInt8.ofNat n≠63:=by decide +kernel
 have:=h2 ⟨c.toNat,c.toNat_lt⟩
 simp only [UInt8.ofNat_toNat] at this;exact this h
theorem valueR_q {q:UInt8} (hq:q=34∨q=39) {e d:Bs} (h:Reads q e d) (r:Bs):valueR (q::(e ++ q::r)) = .ok d r:=by
 simp only [valueR];rw [if_pos hq,letters_reads h r]; rfl
theorem attrR_t (acc:List At2) (q:Bool) (a:At2) (r:Bs) (ha:GoodA a) (hn:acc.any (fun b=>b.1 == a.1)=false):attrR acc ((attT q a).tail ++ r) = .ok a r:=by
 rw [attrR_eq];cases q
 · show (nameR 10 ((a.1 ++ (61::34::(esc true a.2 ++ [34]))) ++ r)).bind _=_
   rw [show (a.1 ++ (61::34::(esc true a.2 ++ [34]))) ++ r=a.1 ++ 61::(34::(esc true a.2 ++ 34::r)) by simp,nameR_all ha.name ha.ne (by decide)];show (if (acc.any fun b=>b.1 == a.1) then _ else restR a.1 (61::34::(esc true a.2 ++ 34::r)))=_
   rw [hn,if_neg (by decide)];unfold restR;have e1:blanks (61::34::(esc true a.2 ++ 34::r))=61::34::(esc true a.2 ++ 34::r):=by simp [blanks,cBlank]
   have e2:blanks (34::(esc true a.2 ++ 34::r))=34::(esc true a.2 ++ 34::r):=by simp [blanks,cBlank]
   rw [e1];show (Res.map _ (valueR (blanks (34::(esc true a.2 ++ 34::r)))))=_
   rw [e2,valueR_q (.inl rfl) (reads_escs (by decide) (.inr ⟨rfl,rfl⟩) a.2 ha.text)]; rfl
 · show (nameR 10 ((a.1 ++ (32::61::9::39::(aposR (esc true a.2) ++ [39]))) ++ r)).bind _=_
   rw [show (a.1 ++ (32::61::9::39::(aposR (esc true a.2) ++ [39]))) ++ r=a.1 ++ 32::(61::9::39::(aposR (esc true a.2) ++ 39::r)) by simp,nameR_all ha.name ha.ne (by decide)];show (if (acc.any fun b=>b.1 == a.1) then _ else restR a.1 (32::61::9::39::(aposR (esc true a.2) ++ 39::r)))=_
   rw [hn,if_neg (by decide)];unfold restR;have e1:blanks (32::61::9::39::(aposR (esc true a.2) ++ 39::r))=61::9::39::(aposR (esc true a.2) ++ 39::r):=by simp [blanks,cBlank]
   have e2:blanks (9::39::(aposR (esc true a.2) ++ 39::r))=39::(aposR (esc true a.2) ++ 39::r):=by simp [blanks,cBlank]
   rw [e1];show (Res.map _ (valueR (blanks (9::39::(aposR (esc true a.2) ++ 39::r)))))=_
   rw [e2,valueR_q (.inr rfl) (reads_aposs a.2 ha.text)]; rfl
theorem attT_tail (q:Bool) (a:At2) (ha:GoodA a) (r:Bs):blanks (attT q a ++ r)=(attT q a).tail ++ r∧tagEnds (attT q a ++ r)=false:=by
 obtain ⟨x,m,hx,hf⟩:=name_first ha.name ha.ne;obtain ⟨h1,h2,h3,-,-⟩:=first_blank hf
 have hb:blanks (attT q a ++ r)=(attT q a).tail ++ r:=by
  cases q <;> (simp only [attT,if_true,Bool.false_eq_true,if_false,hx,List.cons_append,List.tail_cons,blanks]; rw [if_pos (by decide),if_neg (by rw [h1]; decide)])
 refine ⟨hb,?_⟩
 unfold tagEnds;rw [hb];cases q <;> simp [attT,hx,h2,h3]
def attsP (l:List At2):Bs:=l.flatMap (attT false)
def tagP (t:Tk) (fin:Bs):Bs:=60::(t.name ++ (attsP t.attrs ++ fin))
def tokP (t:Tk):Bs :=
 if t.kind=5 then sNote ++ (t.text ++ eNote) else if t.kind=6 then sHead ++ (t.text ++ eHead) else if t.kind=3 then [60,47] ++ (t.name ++ [62])
 else if t.kind=1 then tagP t [62] else if t.kind=2 then tagP t [47,62] else if t.kind=4 then esc false t.text else []
def printP (ts:List Tk):Bs:=ts.flatMap tokP
def attsW (l:List At2):Nat:=(l.map fun a=>a.1.length+6*a.2.length+4).sum
theorem attP_len (a:At2):(attT false a).length≤a.1.length+6*a.2.length+4:=by
 have:=(esc_len true a.2).2
 unfold attT;simp only [Bool.false_eq_true,if_false,List.length_cons,List.length_append,List.length_nil]; omega
theorem attsP_len (l:List At2):(attsP l).length≤attsW l:=by
 induction l with
 | nil=>exact Nat.le_refl _
 | cons a l ih =>
  have:=attP_len a
  show (attT false a ++ attsP l).length≤_
  unfold attsW at *;rw [List.length_append,List.map_cons,List.sum_cons]; omega
theorem attsW_take (l:List At2) (k:Nat):attsW (l.take k)≤attsW l:=by
 induction l generalizing k with
 | nil=>simp [attsW]
 | cons a l ih =>
  cases k with
  | zero=>simp [attsW]
  | succ k=>have:=ih k; unfold attsW at *; simp only [List.take_succ_cons,List.map_cons,List.sum_cons]; omega
theorem attsW_get {l:List At2} {k:Nat} (h:k<l.length):l[k].1.length+6*l[k].2.length+4≤attsW l:=by
 induction l generalizing k with
 | nil=>simp at h
 | cons a l ih =>
  cases k with
  | zero=>unfold attsW; simp only [List.map_cons,List.sum_cons,List.getElem_cons_zero]; omega
  | succ k=>have:=ih (k:=k) (by simpa using h); unfold attsW at *; simp only [List.map_cons,List.sum_cons,List.getElem_cons_succ]; omega
theorem attsP_snoc {l:List At2} {k:Nat} (h:k<l.length):attsP (l.take (k+1))=attsP (l.take k) ++ attT false l[k]:=by
 rw [List.take_succ_eq_append_getElem h]; unfold attsP; rw [List.flatMap_append]; simp
theorem byteCells_len (l:Bs):(Lib.byteCells l).length=l.length:=by simp [Lib.byteCells]
theorem str_cells {s:S} {l:Bs} (h:s=bs l) (cs:Bs):Lib.byteCells cs ++ Lib.strCells s=Lib.byteCells (cs ++ l):=by rw [h,byteCells_app]
theorem att_str {N V E:S} {a:At2} (h1:N=bs a.1) (h2:V=bs a.2) (h3:E=bs (esc true V.data.toList)):(⟨#[32]⟩:S) ++ N ++ (⟨#[61,34]⟩:S) ++ E ++ (⟨#[34]⟩:S)=bs (attT false a):=by
 rw [h3,h2,bs_data,h1,show (⟨#[32]⟩:S)=bs [32] from rfl,show (⟨#[61,34]⟩:S)=bs [61,34] from rfl,show (⟨#[34]⟩:S)=bs [34] from rfl,bs_append,bs_append,bs_append,bs_append];simp [attT]
set_option maxRecDepth 100000 in
set_option maxHeartbeats 8000000 in
theorem tag_any (w0:World) (R b:Nat) (cs:Bs) (x:TkM) (fin:S) (w:World) (hB:Bld R b (Lib.byteCells cs) w) (hA:SliceOf 2 atC w0 x.av x.t.attrs) (h0:Below w0.heap.size w0 w) (hR:w0.heap.size≤R) (hb0:w0.heap.size≤b)
    (hsz:cs.length+x.t.name.length+attsW x.t.attrs+fin.size≤100000000000) (hat:attsW x.t.attrs≤1000000000) :
    Calls Tryz.prog 63 #[.pointer (some ⟨b,0,none⟩),.agg #[.int .i64 x.t.kind,.string (bs x.t.name),x.av,.string (bs x.t.text),.int .i64 x.off,.int .i64 x.line,.int .i64 x.col],.string fin] w
     fun e w'=>e = .returned (.tuple #[])∧Bld R b (Lib.byteCells (cs ++ tagP x.t fin.data.toList)) w'∧Kept R b w w':=by
 obtain ⟨ao,cap,hv⟩:=hA.shape
 have hcap:x.t.attrs.length≤9223372036854775807:=by
  obtain ⟨_,_,e,h2,h3,-⟩:=hA;unfold maxLen at h3; omega
 rw [hv] at hA ⊢;obtain ⟨N,hN⟩ : ∃ N:S,bs x.t.name=N:=⟨_,rfl⟩;have hNs:N.size=x.t.name.length:=by rw [← hN,bs_size]
 have HN:=Lib.hid hN;rw [hN];have HB:=Lib.hid hB;have HA:=Lib.hid hA;have H0:=Lib.hid h0;have hbw:=hB.lt;have hRw:=hB.room;have hN2:N.size≤100000000000:=by omega
 have HNS:=Lib.hid hNs;clear hB hA h0 hN hv hNs;generalize hl:x.t.attrs=l at *;have HL:=Lib.hid hl.symm;clear hl;go_enter Tryz.func63,Tryz.ntmps63
 go_wp2_with fail
 refine Calls.world ?_
 intro W hW;have hbx:W.heap[w.heap.size]? = some (.cells #[.int .i64 x.t.kind,.string N,.slice ao l.length cap,.string (bs x.t.text),.int .i64 x.off,.int .i64 x.line,.int .i64 x.col] 68 (0,0)):=by rw [hW]; exact heap_alloc_new w _
 have hbW:Below w.heap.size w W:=by rw [hW]; exact (Below.refl _ _).alloc (Nat.le_refl _) _
 have hltW:w.heap.size<W.heap.size:=by rw [hW]; simp
 clear hW;refine (writeString_bld R b _ ((⟨#[60]⟩:S) ++ N) W (HB.out.keep hbW) (by rw [byteCells_len,ByteArray.size_append,size_lit]; simp; omega)).mono ?_
 rintro e w1 ⟨rfl,hB1,hK1⟩;have c2:w1.cell? ⟨w.heap.size,2,none⟩=some (.slice ao l.length cap):=(hK1.var (by omega) (by decide) hbx 2).trans (by rw [Lib.cell_of_heap hbx]; rfl);have hlt1:w.heap.size<w1.heap.size:=Nat.lt_of_lt_of_le hltW hK1.size
 have HB1:Hid (Bld R b (Lib.byteCells (cs ++ (60::x.t.name))) w1):=by
  have h1:(⟨#[60]⟩:S) ++ N=bs (60::x.t.name):=by rw [← HN.out,show (⟨#[60]⟩:S)=bs [60] from rfl,bs_append]; rfl
  have h2:=hB1;rw [str_cells h1] at h2;exact h2
 have HK1:Hid (Kept R b w w1):=(Kept.of_below hbW hRw).trans hK1;clear hB1 hK1 hbx hbW hltW;go_wp2_with fail
 clear c2;go_loopw [16] (fun i wr=>∃ k:Nat,k≤l.length∧i = .int .i64 k∧Bld R b (Lib.byteCells (cs ++ (60::x.t.name) ++ attsP (l.take k))) wr∧Kept R b w wr) (fun i _=>l.length - (intOf i).toNat)
 case atStart=>exact ⟨0,Nat.zero_le _,rfl,by have:=HB1.out; simpa [attsP] using this,HK1.out⟩
 case round =>
  obtain ⟨k,hk,rfl,hB,hK⟩:=hrel;have HBk:=Lib.hid hB;have HKk:=Lib.hid hK;have hwr:=hK.size;have hbr:=hB.lt
  have hlen:(cs ++ (60::x.t.name) ++ attsP (l.take k)).length≤100000000001:=by
   have h1:=attsP_len (l.take k);have h2:=attsW_take l k;simp only [List.length_append,List.length_cons]; omega
  by_cases hlt:k<l.length
  · obtain ⟨g,o,rfl,hg,hc⟩:=HA.out.at hlt
    have tr : ∀ q u,w0.cell? ⟨g,q,none⟩=some u→wr.cell? ⟨g,q,none⟩=some u:=fun q u hq=>(hK.cell (by omega) (by omega)).trans ((H0.out.cell (by exact hg)).trans hq);have d0:=tr _ _ (hc 0 _ rfl);have d1:=tr _ _ (hc 1 _ rfl);rw [Nat.add_zero] at d0;have hgr:g<wr.heap.size:=by omega
    have hi1:(k:Int)<(l.length:Int):=by omega
    have hw:=attsW_get hlt;obtain ⟨N2,hN2'⟩ : ∃ N2:S,bs l[k].1=N2:=⟨_,rfl⟩;obtain ⟨V,hV⟩ : ∃ V:S,bs l[k].2=V:=⟨_,rfl⟩;rw [hN2'] at d0;rw [hV] at d1;have hNs2:N2.size≤1000000000:=by rw [← hN2',bs_size]; omega
    have hVs:V.size≤200000000:=by rw [← hV,bs_size]; omega
    obtain ⟨E,hE⟩ : ∃ E:S,E=bs (esc true V.data.toList):=⟨_,rfl⟩
    have hEs:E.size≤1200000000:=by
     rw [hE,bs_size];have:=(esc_len true V.data.toList).2
     rw [size_data] at this; omega
    have HESC:Hid (∀ w,Calls Tryz.prog 31 #[.string V,.bool true] w fun e w'=>e = .returned (.string E)∧Below w.heap.size w w'):=fun w=>by rw [hE]; exact escape_any V true w (by omega)
    have HAS:=Lib.hid (att_str hN2'.symm hV.symm hE)
    have HSZ:Hid (((⟨#[32]⟩:S) ++ N2 ++ (⟨#[61,34]⟩:S) ++ E ++ (⟨#[34]⟩:S)).size≤3000000000):=by
     show _≤_
     simp only [ByteArray.size_append,size_lit];simp; omega
    clear hc tr hB hK hE hN2' hV;go_wp2_with fail
    clear d0 d1;refine wp_world ?_
    intro W2 hW2;have hbx:W2.heap[wr.heap.size]? = some (.cells #[.string N2,.string V] 139 (0,0)):=by rw [hW2]; exact heap_alloc_new wr _
    have hbW:Below wr.heap.size wr W2:=by rw [hW2]; exact (Below.refl _ _).alloc (Nat.le_refl _) _
    have z0:W2.cell? ⟨wr.heap.size,0,none⟩=some (.string N2):=by rw [Lib.cell_of_heap hbx]; rfl
    have z1:W2.cell? ⟨wr.heap.size,1,none⟩=some (.string V):=by rw [Lib.cell_of_heap hbx]; rfl
    have hlt2:wr.heap.size<W2.heap.size:=by rw [hW2]; simp
    have HB2:=Lib.hid ((HBk.out.keep hbW).keep (belowN (Below.refl _ _) 1));have HK2:=Lib.hid (HKk.out.trans (Kept.of_below hbW (by omega)));have HX:=Lib.hid hbx;have f1 : ¬ 9223372036854775807<1+N2.size:=by omega
    have f2 : ¬ 9223372036854775807<1+N2.size+2:=by omega
    have f3 : ¬ 9223372036854775807<1+N2.size+2+E.size:=by omega
    have f4 : ¬ 9223372036854775807<1+N2.size+2+E.size+1:=by omega
    clear hW2 hbx hbW
    go_region_held3 (fun w'=>w'.cell? ⟨wr.heap.size,0,none⟩=some (.string N2)∧w'.cell? ⟨wr.heap.size,1,none⟩=some (.string V)) (first | exact ⟨z0,z1⟩ | exact ⟨(hb5.cell (by exact hlt2)).trans z0,(hb5.cell (by exact hlt2)).trans z1⟩ | exact ⟨(hK6.var (by omega) (by decide) hx5 0).trans ((hb5.cell (by exact hlt2)).trans z0),(hK6.var (by omega) (by decide) hx5 1).trans ((hb5.cell (by exact hlt2)).trans z1)⟩)
     (first | (go_at_call 31; refine (HESC.out _).mono ?_; rintro e w5 ⟨rfl,hb5⟩; have hx5:=(hb5.block _ (by exact hlt2)).trans HX.out) | (go_at_call 30; refine (writeString_bld R b _ _ _ (HB2.out.keep hb5) (by rw [byteCells_len]; have:=HSZ.out; omega)).mono ?_; rintro e w6 ⟨rfl,hB6,hK6⟩))
    have HB6:Hid (Bld R b (Lib.byteCells (cs ++ (60::x.t.name) ++ attsP (l.take (k+1)))) w6):=by
     have h2:=hB6;rw [str_cells HAS.out] at h2;show Bld _ _ _ _
     rw [attsP_snoc hlt,← List.append_assoc]; exact h2
    have HK6:Hid (Kept R b w w6):=(HK2.out.trans (Kept.of_below ((belowN (Below.refl _ _) 1).trans hb5) (by omega))).trans hK6;clear hB6 hK6 hx5 hb5 z0 z1 f1 f2 f3 f4;go_wp2
    go_round
    case rel=>exact ⟨k+1,hlt,by go_num,HB6.out,HK6.out⟩
    case measure=>simp [intOf]; omega
  · obtain rfl:k=l.length:=by omega
    have hi1 : ¬ (l.length:Int)<(l.length:Int):=by omega
    rw [List.take_length] at HBk hlen;clear hB hK;go_wp2_with fail
    refine (writeString_bld R b _ fin wr HBk.out (by rw [byteCells_len]; omega)).mono ?_
    rintro e w3 ⟨rfl,hB3,hK3⟩
    have HB3:Hid (Bld R b (Lib.byteCells (cs ++ tagP x.t fin.data.toList)) w3):=by
     have h2:=hB3;rw [str_cells (data_bs fin).symm] at h2;show Bld _ _ _ _
     have e1:cs ++ (60::x.t.name) ++ attsP l ++ fin.data.toList=cs ++ tagP x.t fin.data.toList:=by
      rw [HL.out]; simp [tagP]
     rw [← e1]; exact h2
    have HK3:=Lib.hid (HKk.out.trans hK3);clear hB3 hK3;go_wp2
    go_end0
    exact ⟨rfl,HB3.out,HK3.out⟩
theorem plain_again {til l s r:Bs} (h:plain til l = .ok s r):(∀ c ∈ s,cText c=true)∧l=s ++ til ++ r ∧ ∀ y,plain til (s ++ til ++ y) = .ok s y:=by
 induction l generalizing s with
 | nil =>
  simp only [plain] at h;split at h
  · rename_i ht
    cases h
    have:til=[]:=by cases til with
     | nil=>rfl
     | cons a b=>simp [List.isPrefixOf] at ht
    subst this;refine ⟨by simp,by simp,fun y=>?_⟩
    cases y <;> simp [plain]
  · cases h
 | cons c l ih =>
  simp only [plain] at h;split at h
  · rename_i ht
    cases h
    obtain ⟨z,hz⟩:=List.isPrefixOf_iff_prefix.1 ht;refine ⟨by simp,?_,fun y=>?_⟩
    · rw [← hz]; simp
    · show plain til (til ++ y)=_
      cases hty:til ++ y with
      | nil =>
       have h1:til=[]:=(List.append_eq_nil_iff.1 hty).1;have h2:y=[]:=(List.append_eq_nil_iff.1 hty).2;subst h1; subst h2; rfl
      | cons a b =>
       simp only [plain];rw [if_pos (by rw [← hty]; exact List.isPrefixOf_iff_prefix.2 ⟨y,rfl⟩),← hty,List.drop_left]
  · rename_i ht
    split at h
    · rename_i hc
      obtain ⟨a,h1,rfl⟩:=map_ok h;obtain ⟨i1,i2,i3⟩:=ih h1;refine ⟨?_,by rw [i2]; simp,fun y=>?_⟩
      · intro x hx
        rcases List.mem_cons.1 hx with rfl | hx
        · exact hc
        · exact i1 x hx
      · show plain til (c::(a ++ til ++ y))=_
        simp only [plain]
        have hp:til.isPrefixOf (c::(a ++ til ++ y))=false:=by
         rw [i2] at ht;have e1:c::(a ++ til ++ r)=(c::(a ++ til)) ++ r:=by simp
         have e2:c::(a ++ til ++ y)=(c::(a ++ til)) ++ y:=by simp
         rw [e1,pre_app (by simp; omega)] at ht;rw [e2,pre_app (by simp; omega)];exact Bool.eq_false_iff.2 ht
        rw [hp,if_neg (by decide),if_pos hc,i3 y]; rfl
    · cases h
inductive GoodT:Bool→Tk→Prop where
 | op (f:Bool) (k:Int) (hk:k=1∨k=2) (nm:Bs) (ats:List At2) (h1:nameLen nm=nm.length) (h2:nm≠[]) (h3 : ∀ a ∈ ats,GoodA a) (h4:(ats.map (·.1)).Nodup):GoodT f ⟨k,nm,ats,[]⟩
 | cl (f:Bool) (nm:Bs) (h1:nameLen nm=nm.length) (h2:nm≠[]):GoodT f ⟨3,nm,[],[]⟩
 | tx (f:Bool) (t:Bs) (h : ∀ c ∈ t,cText c=true):GoodT f ⟨4,[],[],t⟩
 | no (f:Bool) (t:Bs) (h : ∀ y,plain eNote (t ++ eNote ++ y) = .ok t y):GoodT f ⟨5,[],[],t⟩
 | he (t:Bs) (h : ∀ y,plain eHead (t ++ eHead ++ y) = .ok t y) (h2 : ∀ y,isHead (sHead ++ (t ++ eHead ++ y))=true):GoodT true ⟨6,[],[],t⟩
theorem attrsGo_p (tail:Bs) (ht : ∃ c y,tail=c::y∧(c=62∨c=47)) (l:List At2) : ∀ f acc,l.length<f→(∀ a ∈ l,GoodA a)→((acc ++ l).map (·.1)).Nodup→attrsGo f acc (attsP l ++ tail) = .ok (acc ++ l) tail:=by
 induction l with
 | nil =>
  intro f acc hf _ _;obtain ⟨f,rfl⟩ : ∃ g,f=g+1:=⟨f - 1,by simp at hf; omega⟩;obtain ⟨c,y,rfl,hc⟩:=ht;have hb:blanks (c::y)=c::y:=by rcases hc with rfl | rfl <;> simp [blanks,cBlank]
  have he:tagEnds (c::y)=true:=by unfold tagEnds; rw [hb]; simp
  show attrsGo (f+1) acc (c::y)=_
  simp only [attrsGo];rw [if_pos he,hb,List.append_nil]
 | cons a l ih =>
  intro f acc hf hg hn;obtain ⟨f,rfl⟩ : ∃ g,f=g+1:=⟨f - 1,by simp at hf; omega⟩;have ha:=hg a (by simp);obtain ⟨h1,h2⟩:=attT_tail false a ha (attsP l ++ tail)
  have hany:acc.any (fun b=>b.1 == a.1)=false:=by
   rw [List.any_eq_false];intro b hb e;rw [List.map_append,List.nodup_append] at hn;exact hn.2.2 b.1 (List.mem_map.2 ⟨b,hb,rfl⟩) a.1 (by simp) (by simpa using e)
  show attrsGo (f+1) acc ((attT false a ++ attsP l) ++ tail)=_
  rw [List.append_assoc];simp only [attrsGo];rw [h2,if_neg (by decide),h1,attrR_t acc false a _ ha hany];show attrsGo f (acc ++ [a]) (attsP l ++ tail)=_
  rw [ih f (acc ++ [a]) (by simp at hf; omega) (fun x hx=>hg x (by simp [hx])) (by simpa using hn)];simp
theorem attsP_ge (l:List At2):l.length≤(attsP l).length:=by
 induction l with
 | nil=>exact Nat.le_refl _
 | cons p l ih =>
  show _≤(attT false p ++ attsP l).length
  rw [List.length_append];have:1≤(attT false p).length:=by unfold attT; simp
  simp; omega
theorem attsP_head (l:List At2) (c:UInt8) (y:Bs) (hc:cName c=false) : ∃ d r,attsP l ++ c::y=d::r∧cName d=false:=by
 cases l with
 | nil=>exact ⟨c,y,rfl,hc⟩
 | cons a l=>exact ⟨32,(attT false a).tail ++ (attsP l ++ c::y),by show (attT false a ++ attsP l) ++ c::y=_; rw [List.append_assoc]; rfl,by decide⟩
theorem GoodT.again {f:Bool} {t:Tk} (h:GoodT f t) (hk:t.kind≠4) (y:Bs):tokenR f (tokP t ++ y) = .ok t y ∧ ∃ r,tokP t=60::r:=by
 cases h with
 | op f k hk' nm ats h1 h2 h3 h4 =>
  obtain ⟨x,m,hx,hf⟩:=name_first h1 h2;obtain ⟨-,h47,-,h33,h63⟩:=first_blank hf
  have gen : ∀ fin:Bs,(∃ c y',fin ++ y=c::y'∧(c=62∨c=47))→tokenR f (tagP ⟨k,nm,ats,[]⟩ fin ++ y)=endR nm ats (fin ++ y):=by
   rintro fin ⟨c,y',hc,hcc⟩;obtain ⟨d,r,hd,hdn⟩:=attsP_head ats c y' (by rcases hcc with rfl | rfl <;> decide);have e1:tagP ⟨k,nm,ats,[]⟩ fin ++ y=60::x::(m ++ (attsP ats ++ (fin ++ y))):=by unfold tagP; rw [hx]; simp
   rw [e1,tokS_open f _ h33 h63 h47,openR_eq,show x::(m ++ (attsP ats ++ (fin ++ y)))=nm ++ d::r by rw [hc,hd,hx]; rfl,nameR_all h1 h2 hdn];show (attrsR (d::r)).bind _=_
   rw [← hd,← hc];unfold attrsR;rw [attrsGo_p (fin ++ y) ⟨c,y',hc,hcc⟩ ats _ [] (by have:=attsP_ge ats; rw [List.length_append]; omega) h3 (by simpa using h4)];rfl
  rcases hk' with rfl | rfl
  · have e0:tokP ⟨1,nm,ats,[]⟩=tagP ⟨1,nm,ats,[]⟩ [62]:=by unfold tokP; rw [if_neg (by simp),if_neg (by simp),if_neg (by simp),if_pos rfl]
    refine ⟨?_,⟨_,by rw [e0]; rfl⟩⟩
    rw [e0,gen [62] ⟨62,y,rfl,.inl rfl⟩]; rfl
  · have e0:tokP ⟨2,nm,ats,[]⟩=tagP ⟨2,nm,ats,[]⟩ [47,62]:=by unfold tokP; rw [if_neg (by simp),if_neg (by simp),if_neg (by simp),if_neg (by simp),if_pos rfl]
    refine ⟨?_,⟨_,by rw [e0]; rfl⟩⟩
    rw [e0,gen [47,62] ⟨47,62::y,rfl,.inr rfl⟩]; rfl
 | cl f nm h1 h2 =>
  have e0:tokP ⟨3,nm,[],[]⟩=60::47::(nm ++ [62]):=by unfold tokP; rw [if_neg (by simp),if_neg (by simp),if_pos rfl]; rfl
  refine ⟨?_,⟨_,e0⟩⟩
  rw [e0,show (60::47::(nm ++ [62])) ++ y=60::47::(nm ++ 62::y) by simp,tokS_47];unfold closeR;rw [nameR_all h1 h2 (by decide)];simp only [Res.bind];rw [show blanks (62::y)=62::y by simp [blanks,cBlank]];rfl
 | tx f t h=>exact absurd rfl hk
 | no f t h =>
  have e0:tokP ⟨5,[],[],t⟩=sNote ++ (t ++ eNote):=by unfold tokP; rw [if_pos rfl]
  refine ⟨?_,⟨_,by rw [e0]; rfl⟩⟩
  rw [e0];unfold tokenR;rw [if_pos (by rw [List.append_assoc]; exact List.isPrefixOf_iff_prefix.2 ⟨_,rfl⟩)];rw [show (sNote ++ (t ++ eNote) ++ y).drop 4=t ++ eNote ++ y by rw [List.append_assoc]; rfl,h y]; rfl
 | he t h h2 =>
  have e0:tokP ⟨6,[],[],t⟩=sHead ++ (t ++ eHead):=by unfold tokP; rw [if_neg (by simp),if_pos rfl]
  refine ⟨?_,⟨_,by rw [e0]; rfl⟩⟩
  rw [e0,List.append_assoc];have h3:=h2 y;unfold tokenR;rw [if_neg (by simp [sNote,sHead,List.isPrefixOf]),if_neg (by simp [sData,sHead,List.isPrefixOf]),if_pos (by rw [h3]; rfl)];rw [show (sHead ++ (t ++ eHead ++ y)).drop 5=t ++ eHead ++ y from rfl,h y]; rfl
theorem text_again {f:Bool} {t:Bs} (h : ∀ c ∈ t,cText c=true) (hne:t≠[]) {y:Bs} (hy:y=[] ∨ ∃ r,y=60::r):tokenR f (esc false t ++ y) = .ok ⟨4,[],[],t⟩ y:=by
 have hh:(esc false t ++ y).head?≠some 60:=by
  have h1:=esc_head false t;have h2:=esc_ne false hne;cases he:esc false t with
  | nil=>exact absurd he h2
  | cons a b=>rw [he] at h1; simpa using h1
 rw [tokenR_text f hh];rcases hy with rfl | ⟨r,rfl⟩
 · rw [List.append_nil,letters_reads_end (reads_escs (by decide) (.inl rfl) t h)]; rfl
 · rw [letters_reads (reads_escs (by decide) (.inl rfl) t h) r]; rfl
theorem tokP_4 {t:Tk} (h:t.kind=4):tokP t=esc false t.text:=by
 unfold tokP; rw [h]; simp
theorem printP_app (l m:List Tk):printP (l ++ m)=printP l ++ printP m:=by unfold printP; rw [List.flatMap_append]
theorem printP_one (t:Tk):printP [t]=tokP t:=by simp [printP]
def Alt:Bool→List Tk→Prop
 | _,[]=>True
 | f,t::l=>GoodT f t∧(t.kind=4→t.text≠[] ∧ ∀ u r,l=u::r→u.kind≠4)∧Alt false l
theorem GoodT.more {t:Tk} (h:GoodT false t):GoodT true t:=by
 cases h with
 | op f k hk nm ats h1 h2 h3 h4=>exact .op _ k hk nm ats h1 h2 h3 h4
 | cl f nm h1 h2=>exact .cl _ nm h1 h2
 | tx f t h=>exact .tx _ t h
 | no f t h=>exact .no _ t h
theorem GoodT.text {f:Bool} {t:Tk} (h:GoodT f t) (hk:t.kind=4):t=⟨4,[],[],t.text⟩ ∧ ∀ c ∈ t.text,cText c=true:=by
 cases h with
 | op f k hk' nm ats h1 h2 h3 h4=>rcases hk' with rfl | rfl <;> cases hk
 | cl f nm h1 h2=>cases hk
 | tx f t h=>exact ⟨rfl,h⟩
 | no f t h=>cases hk
 | he t h h2=>cases hk
theorem Alt.snoc {f:Bool} {out:List Tk} {t:Tk} (h:Alt f out) (ht:GoodT (if out=[] then f else false) t) (h4:t.kind=4→t.text≠[] ∧ ∀ u,out.getLast? = some u→u.kind≠4):Alt f (out ++ [t]):=by
 induction out generalizing f with
 | nil=>exact ⟨by simpa using ht,fun hk=>⟨(h4 hk).1,fun u r e=>by cases e⟩,trivial⟩
 | cons v out ih =>
  obtain ⟨g1,g2,g3⟩:=h;have ht':GoodT false t:=by simpa using ht
  refine ⟨g1,fun hk=>?_,ih g3 (by split <;> exact ht') (fun hk=>⟨(h4 hk).1,fun u hu=>(h4 hk).2 u ?_⟩)⟩
  · refine ⟨(g2 hk).1,fun u r e=>?_⟩
    cases out with
    | nil =>
     simp at e;obtain ⟨rfl,-⟩:=e;intro hk2;exact (h4 hk2).2 v rfl hk
    | cons z out =>
     simp at e;exact (g2 hk).2 u out (by rw [e.1])
  · cases out with
    | nil=>cases hu
    | cons z out=>simpa using hu
theorem Alt.last {f:Bool} {out:List Tk} {u:Tk} {s:Bs} (h:Alt f out) (hu:out.getLast? = some u) (hk:u.kind=4) (hs : ∀ c ∈ s,cText c=true):Alt f (out.dropLast ++ [{ u with text:=u.text ++ s }]):=by
 induction out generalizing f with
 | nil=>cases hu
 | cons v out ih =>
  obtain ⟨g1,g2,g3⟩:=h;cases out with
  | nil =>
   simp at hu; subst hu;obtain ⟨e,ht⟩:=g1.text hk;refine ⟨?_,fun _=>⟨?_,fun u r e=>by cases e⟩,trivial⟩
   · rw [e]
     exact .tx f _ (fun c hc=>by
      rcases List.mem_append.1 hc with hc | hc
      · exact ht c hc
      · exact hs c hc)
   · intro e2
     exact (g2 hk).1 (List.append_eq_nil_iff.1 e2).1
  | cons z out =>
   have hu':(z::out).getLast? = some u:=by simpa using hu
   have hi:=ih g3 hu';refine ⟨g1,fun hkv=>⟨(g2 hkv).1,fun w r e=>?_⟩,hi⟩
   have hz:=(g2 hkv).2 z out rfl;cases out with
   | nil =>
    simp at hu'; subst hu';exact absurd hk hz
   | cons y out =>
    simp at e;rw [← e.1]; exact hz
theorem tokP_ne {f:Bool} {t:Tk} (h:GoodT f t) (h4:t.kind=4→t.text≠[]):tokP t≠[]:=by
 by_cases hk:t.kind=4
 · rw [tokP_4 hk]; exact esc_ne false (h4 hk)
 · obtain ⟨-,r,hr⟩:=h.again hk []
   rw [hr]; simp
theorem alt_all (l:List Tk) : ∀ n f acc,Alt f l→(printP l).length≤n → ∃ more,allGo n f acc (printP l) = .ok (acc ++ more) []∧more.map (·.1)=l:=by
 induction l with
 | nil=>intro n f acc _ _; exact ⟨[],by rw [show printP []=[] from rfl,allGo_nil]; simp,rfl⟩
 | cons t l ih =>
  intro n f acc h hn;obtain ⟨g1,g2,g3⟩:=h;have hc:printP (t::l)=tokP t ++ printP l:=rfl;have hne:=tokP_ne g1 (fun hk=>(g2 hk).1);have hlen:1≤(tokP t).length:=List.length_pos_iff.2 hne;rw [hc,List.length_append] at hn;obtain ⟨n,rfl⟩ : ∃ m,n=m+1:=⟨n - 1,by omega⟩
  have h1:tokenR f (tokP t ++ printP l) = .ok t (printP l):=by
   by_cases hk:t.kind=4
   · obtain ⟨e,ht⟩:=g1.text hk
     rw [tokP_4 hk]
     have:=text_again (f:=f) ht (g2 hk).1 (y:=printP l) (by
      cases l with
      | nil=>exact .inl rfl
      | cons u r =>
       right
       obtain ⟨-,z,hz⟩:=g3.1.again ((g2 hk).2 u r rfl) []
       exact ⟨z ++ printP r,by show tokP u ++ printP r=_; rw [hz]; rfl⟩)
     rw [this,← e]
   · exact (g1.again hk _).1
  obtain ⟨more,e1,e2⟩:=ih n false (acc ++ [(t,tokP t ++ printP l)]) g3 (by omega);refine ⟨(t,tokP t ++ printP l)::more,?_,by rw [List.map_cons,e2]⟩
  rw [hc,allGo_step (by intro e; exact hne (List.append_eq_nil_iff.1 e).1) h1,e1]; simp
def tkW (t:Tk):Nat:=t.name.length+t.text.length+attsW t.attrs+20
def tksW (l:List Tk):Nat:=(l.map tkW).sum
theorem tokP_len (t:Tk):(tokP t).length≤6*tkW t:=by
 have h1:=(esc_len false t.text).2;have h2:=attsP_len t.attrs;unfold tokP tkW;repeat' split
 all_goals (try simp only [tagP,sNote,eNote,sHead,eHead,List.length_append,List.length_cons,List.length_nil]); try omega
theorem printP_len (l:List Tk):(printP l).length≤6*tksW l:=by
 induction l with
 | nil=>exact Nat.le_refl _
 | cons t l ih =>
  have:=tokP_len t
  show (tokP t ++ printP l).length≤_
  unfold tksW at *;rw [List.length_append,List.map_cons,List.sum_cons]; omega
theorem tksW_take (l:List Tk) (k:Nat):tksW (l.take k)≤tksW l:=by
 induction l generalizing k with
 | nil=>simp [tksW]
 | cons a l ih =>
  cases k with
  | zero=>simp [tksW]
  | succ k=>have:=ih k; unfold tksW at *; simp only [List.take_succ_cons,List.map_cons,List.sum_cons]; omega
theorem tksW_get {l:List Tk} {k:Nat} (h:k<l.length):tkW l[k]≤tksW l:=by
 induction l generalizing k with
 | nil=>simp at h
 | cons a l ih =>
  cases k with
  | zero=>unfold tksW; simp only [List.map_cons,List.sum_cons,List.getElem_cons_zero]; omega
  | succ k=>have:=ih (k:=k) (by simpa using h); unfold tksW at *; simp only [List.map_cons,List.sum_cons,List.getElem_cons_succ]; omega
theorem printP_snoc {l:List Tk} {k:Nat} (h:k<l.length):printP (l.take (k+1))=printP (l.take k) ++ tokP l[k]:=by
 rw [List.take_succ_eq_append_getElem h]; unfold printP; rw [List.flatMap_append]; simp
structure TkMs (w:World) (v:Value) (L:List TkM):Prop where
 own:SliceOf 7 tkC w v L
 att : ∀ x ∈ L,SliceOf 2 atC w x.av x.t.attrs
theorem tok_str (p q:Bs) {N:S} {t:Bs} (h:N=bs t):(bs p:S) ++ N ++ (bs q:S)=bs (p ++ (t ++ q)):=by rw [h,bs_append,bs_append,List.append_assoc]
theorem kind_cases (K:Int):((K == 5)=true∧K=5)∨((K == 5)=false∧K≠5∧(((K == 6)=true∧K=6)∨((K == 6)=false∧K≠6∧(((K == 3)=true∧K=3)∨((K == 3)=false∧K≠3∧(((K == 1)=true∧K=1)∨((K == 1)=false∧K≠1∧(((K == 2)=true∧K=2)∨((K == 2)=false∧K≠2∧(((K == 4)=true∧K=4)∨((K == 4)=false∧K≠4))))))))))):=by
 have h : ∀ n:Int,((K == n)=true∧K=n)∨((K == n)=false∧K≠n):=fun n=>by
  by_cases e:K=n
  · exact .inl ⟨beq_iff_eq.2 e,e⟩
  · exact .inr ⟨beq_eq_false_iff_ne.2 e,e⟩
 rcases h 5 with a | ⟨a,b⟩
 · exact .inl a
 refine .inr ⟨a,b,?_⟩
 rcases h 6 with a | ⟨a,b⟩
 · exact .inl a
 refine .inr ⟨a,b,?_⟩
 rcases h 3 with a | ⟨a,b⟩
 · exact .inl a
 refine .inr ⟨a,b,?_⟩
 rcases h 1 with a | ⟨a,b⟩
 · exact .inl a
 refine .inr ⟨a,b,?_⟩
 rcases h 2 with a | ⟨a,b⟩
 · exact .inl a
 refine .inr ⟨a,b,?_⟩
 rcases h 4 with a | ⟨a,b⟩
 · exact .inl a
 exact .inr ⟨a,b⟩
set_option maxRecDepth 100000 in
set_option maxHeartbeats 16000000 in
theorem print_any (v:Value) (L:List TkM) (w:World) (h:TkMs w v L) (hsz:tksW (L.map (·.t))≤1000000000) :
    Calls Tryz.prog 32 #[v] w fun e w'=>e = .returned (.string (bs (printP (L.map (·.t)))))∧Below w.heap.size w w':=by
 obtain ⟨ao,cap,rfl⟩:=h.own.shape
 have hcap:L.length≤9223372036854775807:=by
  obtain ⟨_,_,e,h2,h3,-⟩:=h.own;unfold maxLen at h3; omega
 have HT:=Lib.hid h;clear h;go_enter Tryz.func32,Tryz.ntmps32
 go_wp2_with fail
 refine wp_world ?_
 intro W hW;have hB0:=Bld.fresh w (w.alloc (.cells #[.pointer none,.slice none 0 0] 74)) (Below.refl _ _);have hbel:Below w.heap.size w W:=by rw [hW]; exact (Below.refl _ _).alloc (Nat.le_refl _) _
 have hWs:W.heap.size=w.heap.size+1:=by rw [hW]; simp
 rw [← hW] at hB0;have HB0:=Lib.hid hB0;have HBE:=Lib.hid hbel;have HWS:=Lib.hid hWs;clear hW hB0 hbel hWs;go_loopw [8] (fun i wr=>∃ k:Nat,k≤L.length∧i = .int .i64 k∧Bld W.heap.size w.heap.size (Lib.byteCells (printP ((L.map (·.t)).take k))) wr∧Kept W.heap.size w.heap.size W wr) (fun i _=>L.length - (intOf i).toNat)
 case atStart=>exact ⟨0,Nat.zero_le _,rfl,HB0.out,Kept.refl _ _ _⟩
 case round =>
  obtain ⟨k,hk,rfl,hB,hK⟩:=hrel;have HBk:=Lib.hid hB;have HKk:=Lib.hid hK;have hwr:=hK.size
  have hlen:(printP ((L.map (·.t)).take k)).length≤6000000000:=by
   have h1:=printP_len ((L.map (·.t)).take k);have h2:=tksW_take (L.map (·.t)) k;omega
  have hWw:w.heap.size<W.heap.size:=by have:=HWS.out; omega
  by_cases hlt:k<L.length
  · have hltM:k<(L.map (·.t)).length:=by simpa using hlt
    obtain ⟨g,o,rfl,hg,hc⟩:=HT.out.own.at hlt;have hA:=HT.out.att L[k] (List.getElem_mem hlt);have HBw:Hid (Below w.heap.size w wr):=HBE.out.trans (hK.below (Nat.le_of_lt hWw) (Nat.le_refl _));have tr : ∀ q u,w.cell? ⟨g,q,none⟩=some u→wr.cell? ⟨g,q,none⟩=some u:=fun q u hq=>(HBw.out.cell (by exact hg)).trans hq;have d0:=tr _ _ (hc 0 _ rfl);have d1:=tr _ _ (hc 1 _ rfl);have d2:=tr _ _ (hc 2 _ rfl);have d3:=tr _ _ (hc 3 _ rfl);have d4:=tr _ _ (hc 4 _ rfl);have d5:=tr _ _ (hc 5 _ rfl);have d6:=tr _ _ (hc 6 _ rfl);rw [Nat.add_zero] at d0;have hgr:g<wr.heap.size:=Nat.lt_of_lt_of_le hg (Nat.le_trans (Nat.le_of_lt hWw) hwr);have hi1:(k:Int)<(L.length:Int):=by omega
    have hw:=tksW_get hltM;rw [List.getElem_map] at hw
    have HSN:Hid (∀ w4,Bld W.heap.size w.heap.size (Lib.byteCells (printP ((L.map (·.t)).take k) ++ tokP L[k].t)) w4→Bld W.heap.size w.heap.size (Lib.byteCells (printP ((L.map (·.t)).take (k+1)))) w4):=fun w4 h4=>by
     rw [printP_snoc hltM,List.getElem_map]; exact h4
    have htw:tkW L[k].t≤1000000000:=by omega
    unfold tkW at htw;obtain ⟨ca,cpa,hav⟩:=hA.shape;obtain ⟨N,hN⟩ : ∃ N:S,bs L[k].t.name=N:=⟨_,rfl⟩;obtain ⟨X,hX⟩ : ∃ X:S,bs L[k].t.text=X:=⟨_,rfl⟩;have hNs:N.size≤1000000000:=by rw [← hN,bs_size]; omega
    have hXs:X.size≤1000000000:=by rw [← hX,bs_size]; omega
    have HN:=Lib.hid hN;have HX:=Lib.hid hX;have HA:=Lib.hid hA;rw [hN] at d1;rw [hX] at d3;have HAV:=Lib.hid hav;rw [hav] at d2;clear hc tr hw hB hK hN hX hA hav;generalize L[k]=x at *;have HB1:=Lib.hid (HBk.out.keep ((Below.refl _ _).alloc (Nat.le_refl _) (.cells #[.int .i64 x.t.kind,.string N,.slice ca x.t.attrs.length cpa,.string X,.int .i64 x.off,.int .i64 x.line,.int .i64 x.col] 68)));have HK1:=Lib.hid (HKk.out.trans (Kept.of_below (R:=W.heap.size) (b:=w.heap.size) ((Below.refl _ _).alloc (Nat.le_refl _) (.cells #[.int .i64 x.t.kind,.string N,.slice ca x.t.attrs.length cpa,.string X,.int .i64 x.off,.int .i64 x.line,.int .i64 x.col] 68)) hwr));generalize printP ((L.map (·.t)).take k)=P at *
    have HTG:Hid (∀ fin:S,fin.size≤2→Calls Tryz.prog 63 #[.pointer (some ⟨w.heap.size,0,none⟩),.agg #[.int .i64 x.t.kind,.string N,.slice ca x.t.attrs.length cpa,.string X,.int .i64 x.off,.int .i64 x.line,.int .i64 x.col],.string fin] (wr.alloc (.cells #[.int .i64 x.t.kind,.string N,.slice ca x.t.attrs.length cpa,.string X,.int .i64 x.off,.int .i64 x.line,.int .i64 x.col] 68))
        fun e w'=>e = .returned (.tuple #[])∧Bld W.heap.size w.heap.size (Lib.byteCells (P ++ tagP x.t fin.data.toList)) w'∧Kept W.heap.size w.heap.size (wr.alloc (.cells #[.int .i64 x.t.kind,.string N,.slice ca x.t.attrs.length cpa,.string X,.int .i64 x.off,.int .i64 x.line,.int .i64 x.col] 68)) w'):=fun fin hf=>by
     have:=tag_any w W.heap.size w.heap.size P x fin _ HB1.out HA.out (HBw.out.alloc (Nat.le_trans (Nat.le_of_lt hWw) hwr) _) (Nat.le_of_lt hWw) (Nat.le_refl _) (by omega) (by omega)
     rw [HN.out,HX.out,HAV.out] at this;exact this
    have hks:=kind_cases x.t.kind;rcases hks with ⟨e5,hk0⟩ | ⟨e5,hn5,⟨e6,hk0⟩ | ⟨e6,hn6,⟨e3,hk0⟩ | ⟨e3,hn3,⟨e1,hk0⟩ | ⟨e1,hn1,⟨e2,hk0⟩ | ⟨e2,hn2,⟨e4,hk0⟩ | ⟨e4,hn4⟩⟩⟩⟩⟩⟩
    · have HTE:Hid (tokP x.t=sNote ++ (x.t.text ++ eNote)):=by show _=_; unfold tokP; rw [if_pos hk0]
      clear hk0 ;go_wp2_with fail
      refine (writeString_bld W.heap.size w.heap.size _ ((⟨#[60,33,45,45]⟩:S) ++ X ++ (⟨#[45,45,62]⟩:S)) _ HB1.out (by simp only [byteCells_len,ByteArray.size_append,size_lit]; simp; omega)).mono ?_
      rintro e w4 ⟨rfl,hB4,hK4⟩
      have HB4:Hid (Bld W.heap.size w.heap.size (Lib.byteCells (printP ((L.map (·.t)).take (k+1)))) w4):=HSN.out w4 (by
       have h1:=hB4;rw [str_cells (show (⟨#[60,33,45,45]⟩:S) ++ X ++ (⟨#[45,45,62]⟩:S)=bs (sNote ++ (x.t.text ++ eNote)) from tok_str sNote eNote HX.out.symm)] at h1
       rw [HTE.out]; exact h1)
      have HK4:=Lib.hid (HK1.out.trans hK4);clear hB4 hK4;go_wp2
      go_round
      case rel=>exact ⟨k+1,hlt,by go_num,HB4.out,HK4.out⟩
      case measure=>simp [intOf]; omega
    · have HTE:Hid (tokP x.t=sHead ++ (x.t.text ++ eHead)):=by show _=_; unfold tokP; rw [if_neg hn5,if_pos hk0]
      clear hk0 hn5;go_wp2_with fail
      refine (writeString_bld W.heap.size w.heap.size _ ((⟨#[60,63,120,109,108]⟩:S) ++ X ++ (⟨#[63,62]⟩:S)) _ HB1.out (by simp only [byteCells_len,ByteArray.size_append,size_lit]; simp; omega)).mono ?_
      rintro e w4 ⟨rfl,hB4,hK4⟩
      have HB4:Hid (Bld W.heap.size w.heap.size (Lib.byteCells (printP ((L.map (·.t)).take (k+1)))) w4):=HSN.out w4 (by
       have h1:=hB4;rw [str_cells (show (⟨#[60,63,120,109,108]⟩:S) ++ X ++ (⟨#[63,62]⟩:S)=bs (sHead ++ (x.t.text ++ eHead)) from tok_str sHead eHead HX.out.symm)] at h1
       rw [HTE.out]; exact h1)
      have HK4:=Lib.hid (HK1.out.trans hK4);clear hB4 hK4;go_wp2
      go_round
      case rel=>exact ⟨k+1,hlt,by go_num,HB4.out,HK4.out⟩
      case measure=>simp [intOf]; omega
    · have HTE:Hid (tokP x.t=([60,47]:Bs) ++ (x.t.name ++ ([62]:Bs))):=by show _=_; unfold tokP; rw [if_neg hn5,if_neg hn6,if_pos hk0]
      clear hk0 hn5 hn6;go_wp2_with fail
      refine (writeString_bld W.heap.size w.heap.size _ ((⟨#[60,47]⟩:S) ++ N ++ (⟨#[62]⟩:S)) _ HB1.out (by simp only [byteCells_len,ByteArray.size_append,size_lit]; simp; omega)).mono ?_
      rintro e w4 ⟨rfl,hB4,hK4⟩
      have HB4:Hid (Bld W.heap.size w.heap.size (Lib.byteCells (printP ((L.map (·.t)).take (k+1)))) w4):=HSN.out w4 (by
       have h1:=hB4;rw [str_cells (show (⟨#[60,47]⟩:S) ++ N ++ (⟨#[62]⟩:S)=bs (([60,47]:Bs) ++ (x.t.name ++ ([62]:Bs))) from tok_str ([60,47]:Bs) ([62]:Bs) HN.out.symm)] at h1
       rw [HTE.out]; exact h1)
      have HK4:=Lib.hid (HK1.out.trans hK4);clear hB4 hK4;go_wp2
      go_round
      case rel=>exact ⟨k+1,hlt,by go_num,HB4.out,HK4.out⟩
      case measure=>simp [intOf]; omega
    · have HTE:Hid (tokP x.t=tagP x.t [62]):=by show _=_; unfold tokP; rw [if_neg hn5,if_neg hn6,if_neg hn3,if_pos hk0]
      clear hk0 hn5 hn6 hn3;go_wp2_with fail
      refine (HTG.out ⟨#[62]⟩ (by rw [size_lit]; simp)).mono ?_
      rintro e w4 ⟨rfl,hB4,hK4⟩;have HB4:Hid (Bld W.heap.size w.heap.size (Lib.byteCells (printP ((L.map (·.t)).take (k+1)))) w4):=HSN.out w4 (by rw [HTE.out]; exact hB4);have HK4:=Lib.hid (HK1.out.trans hK4);clear hB4 hK4;go_wp2
      go_round
      case rel=>exact ⟨k+1,hlt,by go_num,HB4.out,HK4.out⟩
      case measure=>simp [intOf]; omega
    · have HTE:Hid (tokP x.t=tagP x.t [47,62]):=by show _=_; unfold tokP; rw [if_neg hn5,if_neg hn6,if_neg hn3,if_neg hn1,if_pos hk0]
      clear hk0 hn5 hn6 hn3 hn1;go_wp2_with fail
      refine (HTG.out ⟨#[47,62]⟩ (by rw [size_lit]; simp)).mono ?_
      rintro e w4 ⟨rfl,hB4,hK4⟩;have HB4:Hid (Bld W.heap.size w.heap.size (Lib.byteCells (printP ((L.map (·.t)).take (k+1)))) w4):=HSN.out w4 (by rw [HTE.out]; exact hB4);have HK4:=Lib.hid (HK1.out.trans hK4);clear hB4 hK4;go_wp2
      go_round
      case rel=>exact ⟨k+1,hlt,by go_num,HB4.out,HK4.out⟩
      case measure=>simp [intOf]; omega
    · have HTE:Hid (tokP x.t=esc false x.t.text):=by show _=_; unfold tokP; rw [if_neg hn5,if_neg hn6,if_neg hn3,if_neg hn1,if_neg hn2,if_pos hk0]
      clear hk0 hn5 hn6 hn3 hn1 hn2;go_wp2_with fail
      refine (escape_any X false _ hXs).mono ?_
      rintro e w3 ⟨rfl,hb3⟩;have HB3:=Lib.hid (HB1.out.keep hb3);have HK3:=Lib.hid (HK1.out.trans (Kept.of_below (R:=W.heap.size) (b:=w.heap.size) hb3 (by simp; omega)))
      have hEl:(esc false X.data.toList).length≤6000000000:=by
       have:=(esc_len false X.data.toList).2
       rw [size_data] at this; omega
      clear hb3;go_wp2_with fail
      refine (writeString_bld W.heap.size w.heap.size _ _ _ HB3.out (by rw [byteCells_len,bs_size]; omega)).mono ?_
      rintro e w4 ⟨rfl,hB4,hK4⟩
      have HB4:Hid (Bld W.heap.size w.heap.size (Lib.byteCells (printP ((L.map (·.t)).take (k+1)))) w4):=HSN.out w4 (by
       have h1:=hB4;rw [str_cells rfl] at h1;rw [HTE.out];have e1:X.data.toList=x.t.text:=by rw [← HX.out,bs_data]
       rw [e1] at h1; exact h1)
      have HK4:=Lib.hid (HK3.out.trans hK4);clear hB4 hK4;go_wp2
      go_round
      case rel=>exact ⟨k+1,hlt,by go_num,HB4.out,HK4.out⟩
      case measure=>simp [intOf]; omega
    · have HTE:Hid (tokP x.t=[]):=by show _=_; unfold tokP; rw [if_neg hn5,if_neg hn6,if_neg hn3,if_neg hn1,if_neg hn2,if_neg hn4]
      clear hn5 hn6 hn3 hn1 hn2 hn4;go_wp2
      go_round
      case rel=>exact ⟨k+1,hlt,by go_num,HSN.out _ (by rw [HTE.out,List.append_nil]; exact HB1.out),HK1.out⟩
      case measure=>simp [intOf]; omega
  · obtain rfl:k=L.length:=by omega
    have hi1 : ¬ (L.length:Int)<(L.length:Int):=by omega
    have hO:(L.map (·.t)).take L.length=L.map (·.t):=List.take_of_length_le (by simp);rw [hO] at HBk;clear hB hK hO;go_wp2_with fail
    refine (Tryz.Builder_String_any w.heap.size w.heap.size (printP (L.map (·.t))) wr (HBk.out.isB _ (Nat.le_of_lt hWw) (Nat.le_refl _)) (Nat.le_trans (Nat.le_of_lt hWw) hwr)).mono ?_
    rintro e w2 ⟨rfl,hb2⟩;have HZ:=Lib.hid ((HBE.out.trans (HKk.out.below (Nat.le_of_lt hWw) (Nat.le_refl _))).trans hb2);clear hb2;go_wp2
    go_ret
    exact ⟨rfl,HZ.out⟩
theorem refSpec_less {s t:Bs} {n:Nat} (h:refSpec s = .ok t n):t.length≤n:=by
 have h4:=refSpec_len h
 have hn : ∀ hex a d,numRef hex a d = .ok t n→2≤a→t.length≤n:=by
  intro hex a d h ha;have:=numRef_min h
  omega
 cases s with
 | nil=>cases h
 | cons c r =>
  simp only [refSpec] at h;split at h
  · cases h
  · split at h
    · split at h
      · exact hn _ _ _ h (by decide)
      · exact hn _ _ _ h (by decide)
    · split at h
      · split at h <;> cases h
      · split at h
        · split at h
          · cases h; simp
          · cases h
        · cases h
theorem letters_eat {stop:UInt8} (n:Nat) : ∀ {l s r:Bs},l.length≤n→lettersGo stop 0 l = .ok s r→s.length+r.length≤l.length:=by
 induction n with
 | zero =>
  intro l s r hn h;have:l=[]:=List.eq_nil_of_length_eq_zero (by omega)
  subst this;cases h; simp
 | succ n ih =>
  intro l s r hn h;cases l with
  | nil=>cases h; simp
  | cons c l =>
   simp only [List.length_cons] at hn;simp only [lettersGo] at h;split at h
   · cases h; simp
   · split at h
     · cases hr:refSpec (c::l) with
       | bad e=>rw [hr] at h; cases h
       | ok t k =>
        rw [hr] at h;obtain ⟨a,h1,rfl⟩:=map_ok h;obtain ⟨k1,k2⟩:=refSpec_size hr;have k3:=refSpec_less hr;rw [lettersGo_drop] at h1;have:=ih (by rw [List.length_drop]; omega) h1
        rw [List.length_drop] at this;simp only [List.length_cons,List.length_append] at k2 ⊢;omega
     · split at h
       · cases h
       · obtain ⟨a,h1,rfl⟩:=map_ok h
         have:=ih (by omega) h1
         simp only [List.length_cons]; omega
theorem nameR_eat {e:Int} {l nm r:Bs} (h:nameR e l = .ok nm r):nm.length+r.length=l.length:=by
 cases l with
 | nil=>cases h
 | cons c l =>
  simp only [nameR] at h;split at h
  · cases h
  · cases h
    have:=nameLen_le (c::l)
    rw [List.length_take,List.length_drop]; omega
theorem wantC_eat {c:UInt8} {l r:Bs} {u:Unit} (h:wantC c l = .ok u r):r.length+1=l.length:=by
 cases l with
 | nil=>cases h
 | cons x l=>simp only [wantC] at h; split at h <;> cases h; simp
theorem valueR_eat {l s r:Bs} (h:valueR l = .ok s r):s.length+r.length+2≤l.length:=by
 cases l with
 | nil=>cases h
 | cons q l =>
  simp only [valueR] at h;split at h
  · obtain ⟨a,r1,h1,h2⟩:=bind_ok h
    have:=letters_eat l.length (Nat.le_refl _) h1
    split at h2
    · cases h2
    · cases h2; simp only [List.length_cons] at this ⊢; omega
  · cases h
def attsE (l:List At2):Nat:=(l.map fun a=>a.1.length+a.2.length+4).sum
theorem attsE_app (l m:List At2):attsE (l ++ m)=attsE l+attsE m:=by unfold attsE; rw [List.map_append,List.sum_append]
theorem attsW_E (l:List At2):attsW l≤6*attsE l:=by
 induction l with
 | nil=>exact Nat.le_refl _
 | cons a l ih=>unfold attsW attsE at *; simp only [List.map_cons,List.sum_cons]; omega
theorem attrR_eat {acc:List At2} {l r:Bs} {a:At2} (h:attrR acc l = .ok a r):a.1.length+a.2.length+3+r.length≤l.length:=by
 rw [attrR_eq] at h;obtain ⟨nm,r1,h1,h2⟩:=bind_ok h;split at h2
 · cases h2
 · unfold restR at h2
   obtain ⟨_,r2,h3,h4⟩:=bind_ok h2;obtain ⟨v,h5,rfl⟩:=map_ok h4;have e1:=nameR_eat h1;have e2:=wantC_eat h3;have e3:=valueR_eat h5;have e4:=blanks_le r1;have e5:=blanks_le r2;simp only; omega
theorem attrsGo_eat (f:Nat) (acc:List At2) (l:Bs) {res:List At2} {r:Bs} (h:attrsGo f acc l = .ok res r):attsE res+r.length≤attsE acc+l.length:=by
 induction f generalizing acc l with
 | zero=>cases h
 | succ f ih =>
  simp only [attrsGo] at h;split at h
  · cases h; have:=blanks_le l; omega
  · rename_i ht
    cases ha:attrR acc (blanks l) with
    | bad e r'=>rw [ha] at h; cases h
    | ok a r' =>
     rw [ha] at h;have e1:=attrR_eat ha;have e2:=ih _ _ h;have e3:=blanks_le l
     have e4:(blanks l).length≠l.length:=by
      intro e;apply ht
      unfold tagEnds;rw [e]; simp
     rw [attsE_app] at e2;have e5:attsE [a]=a.1.length+a.2.length+4:=by simp [attsE]
     omega
theorem openR_eat {l r:Bs} {t:Tk} (h:openR l = .ok t r):t.name.length+attsE t.attrs+1+r.length≤l.length∧t.text=[]:=by
 rw [openR_eq] at h;obtain ⟨nm,r1,h1,h2⟩:=bind_ok h;obtain ⟨ats,r2,h3,h4⟩:=bind_ok h2;have e1:=nameR_eat h1;have e2:=attrsGo_eat _ _ _ h3;have e0:attsE []=0:=rfl;cases r2 with
 | nil=>cases h4
 | cons c r2 =>
  by_cases hc:c=47
  · subst hc
    rw [endR_47] at h4;obtain ⟨_,h5,rfl⟩:=map_ok h4;have:=wantC_eat h5
    simp only [List.length_cons] at e2;exact ⟨by simp only; omega,rfl⟩
  · rw [endR_no nm ats r2 hc] at h4
    obtain ⟨_,h5,rfl⟩:=map_ok h4;have:=wantC_eat h5
    exact ⟨by simp only; omega,rfl⟩
theorem closeR_eat {l r:Bs} {t:Tk} (h:closeR l = .ok t r):t.kind=3∧t.name.length+1+r.length≤l.length∧t.attrs=[]∧t.text=[]:=by
 obtain ⟨nm,r1,h1,h2⟩:=bind_ok h;obtain ⟨_,h3,rfl⟩:=map_ok h2;have e1:=nameR_eat h1;have e2:=wantC_eat h3;have e3:=blanks_le r1;exact ⟨rfl,by simp only; omega,rfl,rfl⟩
theorem tag_len (t:Tk) (fin:Bs):(tagP t fin).length≤1+t.name.length+attsW t.attrs+fin.length:=by
 have:=attsP_len t.attrs
 unfold tagP;simp only [List.length_cons,List.length_append]; omega
theorem tokenR_eat {f:Bool} {l r:Bs} {t:Tk} (h:tokenR f l = .ok t r) (hl:l≠[]):(tokP t).length+6*r.length≤6*l.length∧tkW t+26*r.length≤26*l.length:=by
 have hless:=tokenR_less h hl;unfold tokenR at h;split at h
 · rename_i hp
   obtain ⟨s,h1,rfl⟩:=map_ok h;have e1:=congrArg List.length (plain_again h1).2.1;obtain ⟨z,hz⟩:=List.isPrefixOf_iff_prefix.1 hp;have e2:=congrArg List.length hz;have e0:tokP ⟨5,[],[],s⟩=sNote ++ (s ++ eNote):=by unfold tokP; rw [if_pos rfl]
   rw [e0];unfold tkW;simp only [List.length_append,List.length_drop,sNote,eNote,List.length_cons,List.length_nil,attsW,List.map_nil,List.sum_nil] at *;omega
 · split at h
   · rename_i hp
     obtain ⟨s,h1,rfl⟩:=map_ok h;have e1:=congrArg List.length (plain_again h1).2.1;obtain ⟨z,hz⟩:=List.isPrefixOf_iff_prefix.1 hp;have e2:=congrArg List.length hz;have e3:=(esc_len false s).2;rw [tokP_4 rfl];unfold tkW;simp only [List.length_append,List.length_drop,sData,eData,List.length_cons,List.length_nil,attsW,List.map_nil,List.sum_nil] at *;omega
   · split at h
     · rename_i hh
       obtain ⟨s,h1,rfl⟩:=map_ok h;have e1:=congrArg List.length (plain_again h1).2.1;rw [Bool.and_eq_true] at hh;have hh2:=hh.2;unfold isHead at hh2;rw [Bool.and_eq_true] at hh2;obtain ⟨z,hz⟩:=List.isPrefixOf_iff_prefix.1 hh2.1;have e2:=congrArg List.length hz;have e0:tokP ⟨6,[],[],s⟩=sHead ++ (s ++ eHead):=by unfold tokP; rw [if_neg (by simp),if_pos rfl]
       rw [e0];unfold tkW;simp only [List.length_append,List.length_drop,sHead,eHead,List.length_cons,List.length_nil,attsW,List.map_nil,List.sum_nil] at *;omega
     · split at h
       · obtain ⟨hk,e1,e2,e3⟩:=closeR_eat h
         have e0:tokP t=[60,47] ++ (t.name ++ [62]):=by unfold tokP; rw [hk]; simp
         rw [e0];unfold tkW;rw [e2,e3];simp only [List.length_append,List.length_cons,List.length_nil,attsW,List.map_nil,List.sum_nil];omega
       · obtain ⟨e1,e2⟩:=openR_eat h
         have hw:=attsW_E t.attrs
         have hlen:(tokP t).length≤3+t.name.length+attsW t.attrs:=by
          rcases openR_kind h with hk | hk
          · have e0:tokP t=tagP t [62]:=by unfold tokP; rw [hk]; simp
            have:=tag_len t [62]
            rw [e0]; simp at this; omega
          · have e0:tokP t=tagP t [47,62]:=by unfold tokP; rw [hk]; simp
            have:=tag_len t [47,62]
            rw [e0]; simp at this; omega
         unfold tkW;rw [e2];simp only [List.length_cons,List.length_nil] at *;omega
       · obtain ⟨s,h1,rfl⟩:=map_ok h
         have e1:=letters_eat l.length (Nat.le_refl _) h1;have e3:=(esc_len false s).2;rw [tokP_4 rfl];unfold tkW;simp only [List.length_nil,attsW,List.map_nil,List.sum_nil] at *;omega
theorem allGo_eat (n:Nat) (f:Bool) (acc:List (Tk × Bs)) (l:Bs) {res:List (Tk × Bs)} {r:Bs} (h:allGo n f acc l = .ok res r):(printP (res.map (·.1))).length≤(printP (acc.map (·.1))).length+6*l.length∧tksW (res.map (·.1))≤tksW (acc.map (·.1))+26*l.length:=by
 induction n generalizing f acc l with
 | zero=>cases l with
  | nil=>cases h; exact ⟨by omega,by omega⟩
  | cons c l=>cases h
 | succ n ih =>
  cases l with
  | nil=>cases h; exact ⟨by omega,by omega⟩
  | cons c l =>
   simp only [allGo] at h;cases ht:tokenR f (c::l) with
   | bad e r'=>rw [ht] at h; cases h
   | ok t r' =>
    rw [ht] at h;obtain ⟨i1,i2⟩:=ih _ _ _ h;obtain ⟨j1,j2⟩:=tokenR_eat ht (by simp)
    have k1:(printP ((acc ++ [(t,c::l)]).map (·.1))).length=(printP (acc.map (·.1))).length+(tokP t).length:=by
     rw [List.map_append,printP_app,List.length_append]; simp [printP]
    have k2:tksW ((acc ++ [(t,c::l)]).map (·.1))=tksW (acc.map (·.1))+tkW t:=by
     unfold tksW; rw [List.map_append,List.map_append,List.sum_append]; simp
    rw [k1] at i1;rw [k2] at i2;omega
theorem allR_eat {T:Bs} {acc:List (Tk × Bs)} {r:Bs} (h:allR T = .ok acc r):(printP (acc.map (·.1))).length≤6*T.length∧tksW (acc.map (·.1))≤26*T.length:=by
 have:=allGo_eat _ _ _ _ h
 simpa [printP,tksW] using this
set_option maxRecDepth 100000 in
set_option maxHeartbeats 8000000 in
theorem tok_text (b:Nat) (s:S) (l:Bs) (ao:Option Addr) (cap:Nat) (L:List TkM) (m:Int) (w:World) (h:Toks w b s l (.slice ao L.length cap) L) (hs:s.size≤65536) (hm:w.cell? ⟨0,0,none⟩=some (.int .i64 m)) (hL:L.length≤1000000)
    (hno:sNote.isPrefixOf l=false) (hno2:sData.isPrefixOf l=false) (hh:pos s l=0→isHead l=false) (hlt:([60]:Bs).isPrefixOf l=false) :
    Calls Tryz.prog 53 #[.pointer (some ⟨b,0,none⟩)] w (OutT b s (pos s l) L w ((letters 60 l).map fun t=>⟨4,[],[],t⟩)):=by
 have hlt0:=h.rd.box.lt;have c1:=h.rd.c1;have H0:=Lib.hid h;have hs2:s.size≤1000000:=by omega
 have HM:=Lib.hid hm;have hp:=pos_add h.rd.suf;have hpb:(pos s l:Int)≤65536:=by omega
 have HA:Hid (∀ w,Rd w b s l (.slice ao L.length cap)→Calls Tryz.prog 80 #[.pointer (some ⟨b,0,none⟩),.string ⟨#[60,33,45,45]⟩] w (Qt (.bool false) w)):=fun w h=>by
  have:=has_pre b s l (.slice ao L.length cap) ⟨#[60,33,45,45]⟩ w h
  rw [show (⟨#[60,33,45,45]⟩:S).data.toList.isPrefixOf l=false from hno] at this; exact this
 have HB:Hid (∀ w,Rd w b s l (.slice ao L.length cap)→Calls Tryz.prog 80 #[.pointer (some ⟨b,0,none⟩),.string ⟨#[60,33,91,67,68,65,84,65,91]⟩] w (Qt (.bool false) w)):=fun w h=>by
  have:=has_pre b s l (.slice ao L.length cap) ⟨#[60,33,91,67,68,65,84,65,91]⟩ w h
  rw [show (⟨#[60,33,91,67,68,65,84,65,91]⟩:S).data.toList.isPrefixOf l=false from hno2] at this; exact this
 have HD:Hid (∀ w,Rd w b s l (.slice ao L.length cap)→Calls Tryz.prog 80 #[.pointer (some ⟨b,0,none⟩),.string ⟨#[60]⟩] w (Qt (.bool false) w)):=fun w h=>by
  have:=has_pre b s l (.slice ao L.length cap) ⟨#[60]⟩ w h
  rw [show (⟨#[60]⟩:S).data.toList.isPrefixOf l=false from hlt] at this; exact this
 have hlt2:([60,47]:Bs).isPrefixOf l=false:=by
  cases l with
  | nil=>rfl
  | cons c r=>simp only [List.isPrefixOf,Bool.and_true] at hlt ⊢; rw [hlt]; rfl
 have HC:Hid (∀ w,Rd w b s l (.slice ao L.length cap)→Calls Tryz.prog 80 #[.pointer (some ⟨b,0,none⟩),.string ⟨#[60,47]⟩] w (Qt (.bool false) w)):=fun w h=>by
  have:=has_pre b s l (.slice ao L.length cap) ⟨#[60,47]⟩ w h
  rw [show (⟨#[60,47]⟩:S).data.toList.isPrefixOf l=false from hlt2] at this; exact this
 have HU:Hid (∀ w,Rd w b s l (.slice ao L.length cap)→Calls Tryz.prog 87 #[.pointer (some ⟨b,0,none⟩),.int .u8 60] w (Out (fun t=>.string (bs t)) b s (.slice ao L.length cap) w (letters 60 l))):=fun w h=>letters_any b s 60 l (.slice ao L.length cap) w h hs2;clear hno hno2 hlt hlt2 h hm;by_cases hp0:pos s l=0
 · have e0:(((pos s l:Nat):Int) == 0)=true:=by rw [hp0]; rfl
   have HIH:Hid (∀ w,Rd w b s l (.slice ao L.length cap)→Calls Tryz.prog 82 #[.pointer (some ⟨b,0,none⟩)] w (Qt (.bool false) w)):=fun w h=>by
    have:=isHead_any b s l (.slice ao L.length cap) w h hs2
    rw [show isHead l=false from hh hp0] at this; exact this
   clear hp0 hh;have hR:Rd (w.alloc (.cells #[.int .i64 0,.string ⟨#[]⟩,.slice none 0 0,.string ⟨#[]⟩,.int .i64 (pos s l),.int .i64 0,.int .i64 0] 68)) b s l (.slice ao L.length cap):=H0.out.rd.below ((Below.refl _ _).alloc (Nat.le_refl _) _);go_enter Tryz.func53,Tryz.ntmps53
   go_wp2_with fail
   refine Calls.world ?_
   intro W hW;have hx:Box W w.heap.size [.int .i64 0,.string ⟨#[]⟩,.slice none 0 0,.string ⟨#[]⟩,.int .i64 (pos s l),.int .i64 0,.int .i64 0]:=by rw [hW]; exact Box.new w _ _ _ rfl
   have hG:w.grownBy W (some b):=by rw [hW]; exact World.grownBy_alloc _ _ _
   rw [← hW] at hR;have hm:W.cell? ⟨0,0,none⟩=some (.int .i64 m):=by rw [hW,World.cell?_alloc_lt _ _ _ (by simp; omega)]; exact HM.out
   clear hW;clear c1;have c1:=hR.c1;refine (HA.out W hR).mono ?_
   rintro e w1 ⟨rfl,n0,rfl⟩;go_wp2_with fail
   refine (HB.out _ (hR.drewN _)).mono ?_
   rintro e w1 ⟨rfl,n1,rfl⟩;go_wp2_with fail
   refine (HIH.out _ (hR.drewN _)).mono ?_
   rintro e w1 ⟨rfl,n2,rfl⟩;go_wp2_with fail
   refine (HC.out _ (hR.drewN _)).mono ?_
   rintro e w1 ⟨rfl,n3,rfl⟩;go_wp2_with fail
   refine (HD.out _ (hR.drewN _)).mono ?_
   rintro e w1 ⟨rfl,n4,rfl⟩;have hcall:=HU.out (W.drewN (n0+n1+n2+n3+n4)) (hR.drewN _);cases hpl:letters 60 l with
   | bad x r =>
    rw [hpl] at hcall;have HP:=Lib.hid hpl;clear hpl;have HCL:=Lib.hid hcall;clear hcall hR hx;go_wp2_with fail
    refine HCL.out.mono ?_
    intro e w2 hO;obtain ⟨rfl,hg⟩:Bad x s r b _ e w2:=hO;go_wp2
    rw [HP.out];exact ⟨rfl,rfl,below_grown ((hG.trans (grownN _ _ _)).trans hg) (by omega)⟩
   | ok t r =>
    rw [hpl] at hcall;have HP:=Lib.hid hpl;clear hpl;have HCL:=Lib.hid hcall;clear hcall;go_wp2_with fail
    refine HCL.out.mono ?_
    intro e w2 hO;obtain ⟨rfl,hR2,hg⟩:Goes (.string (bs t)) b s r (.slice ao L.length cap) _ e w2:=hO;have hx2:=(hx.drewN (n0+n1+n2+n3+n4)).grownB hg (by omega);have hG2:=(hG.trans (grownN _ (n0+n1+n2+n3+n4) _)).trans hg;have q0:=hx2.cell 0 _ rfl;have q3:=hx2.cell 3 _ rfl;have qf0:=hx2.free 0;have qf3:=hx2.free 3;have qlt:=hx2.lt;have HX2:=Lib.hid hx2;have HG2:=Lib.hid hG2;have HR2:=Lib.hid hR2;clear hx hx2 hg hG hG2 hR hR2 hm HCL;go_wp2
    refine wp_world ?_
    intro W3 hW3;have hx3:Box W3 w.heap.size [.int .i64 4,.string ⟨#[]⟩,.slice none 0 0,.string (bs t),.int .i64 (pos s l),.int .i64 0,.int .i64 0]:=by rw [hW3]; exact (HX2.out.set 0 _).set 3 _
    have hR3:Rd W3 b s r (.slice ao L.length cap):=by rw [hW3]; exact (HR2.out.setOther (by omega) _ _).setOther (by omega) _ _
    have hG3:w.grownBy W3 (some b):=by rw [hW3]; exact grown_set (grown_set HG2.out (Nat.le_refl _) _ _) (Nat.le_refl _) _ _
    have HAV:Hid (Owns (b+1) 139 2 atC W3 (.slice none 0 0) ([]:List At2)):=Owns.nil;clear hW3 HX2 HG2 HR2 q0 q3 qf0 qf3 qlt;have c2:=hR3.c2;have f2:=hR3.box.free 2;have hlt3:=hR3.box.lt;have t0:=hx3.cell 0 _ rfl;have t1:=hx3.cell 1 _ rfl;have t2:=hx3.cell 2 _ rfl;have t3:=hx3.cell 3 _ rfl;have t4:=hx3.cell 4 _ rfl;have t5:=hx3.cell 5 _ rfl;have t6:=hx3.cell 6 _ rfl;have tlt:=hx3.lt;have HT3:=Lib.hid (H0.out.kept hG3 hR3);have HR3:=Lib.hid hR3;have HG3:=Lib.hid hG3;clear hx3 hR3 hG3;have hne8:Hid (some b≠(Value.slice ao L.length cap).ownBlock):=fun e=>by have:=(HT3.out.own.lt b e.symm).1; omega
    have hbx8:Hid (Box ((W3.alloc (.cells (tkC ⟨⟨4,[],[],t⟩,.slice none 0 0,pos s l,0,0⟩).toArray 68)).drew) b [.string s,.int .i64 (pos s r:Nat),.slice ao L.length cap]):=(HR3.out.box.alloc _).drew;have hnw : ∀ j u,(tkC ⟨⟨4,[],[],t⟩,.slice none 0 0,pos s l,0,0⟩)[j]? = some u→((W3.alloc (.cells (tkC ⟨⟨4,[],[],t⟩,.slice none 0 0,pos s l,0,0⟩).toArray 68)).drew).cell? ⟨W3.heap.size,j,none⟩=some u:=fun j u hu=>(Box.new W3 (tkC ⟨⟨4,[],[],t⟩,.slice none 0 0,pos s l,0,0⟩) 68 _ rfl).cell j u hu;have hco : ∀ u ∈ tkC ⟨⟨4,[],[],t⟩,.slice none 0 0,pos s l,0,0⟩,u.oneCell'=true:=by intro u hu; simp [tkC] at hu; rcases hu with rfl | rfl | rfl | rfl | rfl | rfl | rfl <;> rfl
    have HNW:=Lib.hid hnw;have HCO:=Lib.hid hco;have hown4:=Lib.hid ((HT3.out.own.alloc (.cells (tkC ⟨⟨4,[],[],t⟩,.slice none 0 0,pos s l,0,0⟩).toArray 68)).drew);have hbl:Hid ((L.length+1)*88≤140737488355328):=by show _≤_; omega
    have hbs:Hid (b+1≤((W3.alloc (.cells (tkC ⟨⟨4,[],[],t⟩,.slice none 0 0,pos s l,0,0⟩).toArray 68)).drew).heap.size):=by show _≤_; simp; omega
    have hsz4:Hid (((W3.alloc (.cells (tkC ⟨⟨4,[],[],t⟩,.slice none 0 0,pos s l,0,0⟩).toArray 68)).drew).heap.size=W3.heap.size+1):=by show _=_; simp
    clear hnw hco;go_region_law (first | (refine step_append_one rfl (.tmp 110) (.tmp 112) 60 rfl (b+1) 68 Tryz.underlying60 info_token rfl (by decide) tkC_len (.slice ao L.length cap) L (by simp [Act.eval]) hown4.out W3.heap.size ⟨⟨4,[],[],t⟩,.slice none 0 0,pos s l,0,0⟩ (by simp [Act.eval]) HNW.out HCO.out hbl.out (by decide) hbs.out (W3.heap.size+1) hsz4.out ?_; intro g8 cap8 w8 hown8 hgrow8 hat8 hlt8; have hb9:=Lib.hid (hbx8.out.grown hgrow8 hne8.out); have e2:=hb9.out.cell 2 _ rfl; have ef2:=hb9.out.free 2; have el2:=hb9.out.lt; have ho9:=Lib.hid hown8; have hg9:=Lib.hid hgrow8; clear hown8 hgrow8 hat8))
    all_goals
     go_end0
     rw [HP.out];obtain ⟨h1,h2⟩:=HT3.out.push HG3.out hlt0 (x:=⟨⟨4,[],[],t⟩,.slice none 0 0,pos s l,0,0⟩) HAV.out hg9.out ho9.out;exact ⟨rfl,_,_,h1,h2⟩
 · have e0:(((pos s l:Nat):Int) == 0)=false:=beq_eq_false_iff_ne.2 (by omega)
   clear hp0 hh;have hR:Rd (w.alloc (.cells #[.int .i64 0,.string ⟨#[]⟩,.slice none 0 0,.string ⟨#[]⟩,.int .i64 (pos s l),.int .i64 0,.int .i64 0] 68)) b s l (.slice ao L.length cap):=H0.out.rd.below ((Below.refl _ _).alloc (Nat.le_refl _) _);go_enter Tryz.func53,Tryz.ntmps53
   go_wp2_with fail
   refine Calls.world ?_
   intro W hW;have hx:Box W w.heap.size [.int .i64 0,.string ⟨#[]⟩,.slice none 0 0,.string ⟨#[]⟩,.int .i64 (pos s l),.int .i64 0,.int .i64 0]:=by rw [hW]; exact Box.new w _ _ _ rfl
   have hG:w.grownBy W (some b):=by rw [hW]; exact World.grownBy_alloc _ _ _
   rw [← hW] at hR;have hm:W.cell? ⟨0,0,none⟩=some (.int .i64 m):=by rw [hW,World.cell?_alloc_lt _ _ _ (by simp; omega)]; exact HM.out
   clear hW;clear c1;have c1:=hR.c1;refine (HA.out W hR).mono ?_
   rintro e w1 ⟨rfl,n0,rfl⟩;go_wp2_with fail
   refine (HB.out _ (hR.drewN _)).mono ?_
   rintro e w1 ⟨rfl,n1,rfl⟩;go_wp2_with fail
   refine (HC.out _ (hR.drewN _)).mono ?_
   rintro e w1 ⟨rfl,n2,rfl⟩;go_wp2_with fail
   refine (HD.out _ (hR.drewN _)).mono ?_
   rintro e w1 ⟨rfl,n3,rfl⟩;have hcall:=HU.out (W.drewN (n0+n1+n2+n3)) (hR.drewN _);cases hpl:letters 60 l with
   | bad x r =>
    rw [hpl] at hcall;have HP:=Lib.hid hpl;clear hpl;have HCL:=Lib.hid hcall;clear hcall hR hx;go_wp2_with fail
    refine HCL.out.mono ?_
    intro e w2 hO;obtain ⟨rfl,hg⟩:Bad x s r b _ e w2:=hO;go_wp2
    rw [HP.out];exact ⟨rfl,rfl,below_grown ((hG.trans (grownN _ _ _)).trans hg) (by omega)⟩
   | ok t r =>
    rw [hpl] at hcall;have HP:=Lib.hid hpl;clear hpl;have HCL:=Lib.hid hcall;clear hcall;go_wp2_with fail
    refine HCL.out.mono ?_
    intro e w2 hO;obtain ⟨rfl,hR2,hg⟩:Goes (.string (bs t)) b s r (.slice ao L.length cap) _ e w2:=hO;have hx2:=(hx.drewN (n0+n1+n2+n3)).grownB hg (by omega);have hG2:=(hG.trans (grownN _ (n0+n1+n2+n3) _)).trans hg;have q0:=hx2.cell 0 _ rfl;have q3:=hx2.cell 3 _ rfl;have qf0:=hx2.free 0;have qf3:=hx2.free 3;have qlt:=hx2.lt;have HX2:=Lib.hid hx2;have HG2:=Lib.hid hG2;have HR2:=Lib.hid hR2;clear hx hx2 hg hG hG2 hR hR2 hm HCL;go_wp2
    refine wp_world ?_
    intro W3 hW3;have hx3:Box W3 w.heap.size [.int .i64 4,.string ⟨#[]⟩,.slice none 0 0,.string (bs t),.int .i64 (pos s l),.int .i64 0,.int .i64 0]:=by rw [hW3]; exact (HX2.out.set 0 _).set 3 _
    have hR3:Rd W3 b s r (.slice ao L.length cap):=by rw [hW3]; exact (HR2.out.setOther (by omega) _ _).setOther (by omega) _ _
    have hG3:w.grownBy W3 (some b):=by rw [hW3]; exact grown_set (grown_set HG2.out (Nat.le_refl _) _ _) (Nat.le_refl _) _ _
    have HAV:Hid (Owns (b+1) 139 2 atC W3 (.slice none 0 0) ([]:List At2)):=Owns.nil;clear hW3 HX2 HG2 HR2 q0 q3 qf0 qf3 qlt;have c2:=hR3.c2;have f2:=hR3.box.free 2;have hlt3:=hR3.box.lt;have t0:=hx3.cell 0 _ rfl;have t1:=hx3.cell 1 _ rfl;have t2:=hx3.cell 2 _ rfl;have t3:=hx3.cell 3 _ rfl;have t4:=hx3.cell 4 _ rfl;have t5:=hx3.cell 5 _ rfl;have t6:=hx3.cell 6 _ rfl;have tlt:=hx3.lt;have HT3:=Lib.hid (H0.out.kept hG3 hR3);have HR3:=Lib.hid hR3;have HG3:=Lib.hid hG3;clear hx3 hR3 hG3;have hne8:Hid (some b≠(Value.slice ao L.length cap).ownBlock):=fun e=>by have:=(HT3.out.own.lt b e.symm).1; omega
    have hbx8:Hid (Box ((W3.alloc (.cells (tkC ⟨⟨4,[],[],t⟩,.slice none 0 0,pos s l,0,0⟩).toArray 68)).drew) b [.string s,.int .i64 (pos s r:Nat),.slice ao L.length cap]):=(HR3.out.box.alloc _).drew;have hnw : ∀ j u,(tkC ⟨⟨4,[],[],t⟩,.slice none 0 0,pos s l,0,0⟩)[j]? = some u→((W3.alloc (.cells (tkC ⟨⟨4,[],[],t⟩,.slice none 0 0,pos s l,0,0⟩).toArray 68)).drew).cell? ⟨W3.heap.size,j,none⟩=some u:=fun j u hu=>(Box.new W3 (tkC ⟨⟨4,[],[],t⟩,.slice none 0 0,pos s l,0,0⟩) 68 _ rfl).cell j u hu;have hco : ∀ u ∈ tkC ⟨⟨4,[],[],t⟩,.slice none 0 0,pos s l,0,0⟩,u.oneCell'=true:=by intro u hu; simp [tkC] at hu; rcases hu with rfl | rfl | rfl | rfl | rfl | rfl | rfl <;> rfl
    have HNW:=Lib.hid hnw;have HCO:=Lib.hid hco;have hown4:=Lib.hid ((HT3.out.own.alloc (.cells (tkC ⟨⟨4,[],[],t⟩,.slice none 0 0,pos s l,0,0⟩).toArray 68)).drew);have hbl:Hid ((L.length+1)*88≤140737488355328):=by show _≤_; omega
    have hbs:Hid (b+1≤((W3.alloc (.cells (tkC ⟨⟨4,[],[],t⟩,.slice none 0 0,pos s l,0,0⟩).toArray 68)).drew).heap.size):=by show _≤_; simp; omega
    have hsz4:Hid (((W3.alloc (.cells (tkC ⟨⟨4,[],[],t⟩,.slice none 0 0,pos s l,0,0⟩).toArray 68)).drew).heap.size=W3.heap.size+1):=by show _=_; simp
    clear hnw hco;go_region_law (first | (refine step_append_one rfl (.tmp 110) (.tmp 112) 60 rfl (b+1) 68 Tryz.underlying60 info_token rfl (by decide) tkC_len (.slice ao L.length cap) L (by simp [Act.eval]) hown4.out W3.heap.size ⟨⟨4,[],[],t⟩,.slice none 0 0,pos s l,0,0⟩ (by simp [Act.eval]) HNW.out HCO.out hbl.out (by decide) hbs.out (W3.heap.size+1) hsz4.out ?_; intro g8 cap8 w8 hown8 hgrow8 hat8 hlt8; have hb9:=Lib.hid (hbx8.out.grown hgrow8 hne8.out); have e2:=hb9.out.cell 2 _ rfl; have ef2:=hb9.out.free 2; have el2:=hb9.out.lt; have ho9:=Lib.hid hown8; have hg9:=Lib.hid hgrow8; clear hown8 hgrow8 hat8))
    all_goals
     go_end0
     rw [HP.out];obtain ⟨h1,h2⟩:=HT3.out.push HG3.out hlt0 (x:=⟨⟨4,[],[],t⟩,.slice none 0 0,pos s l,0,0⟩) HAV.out hg9.out ho9.out;exact ⟨rfl,_,_,h1,h2⟩
set_option maxRecDepth 100000 in
set_option maxHeartbeats 8000000 in
theorem tok_close (b:Nat) (s:S) (l:Bs) (ao:Option Addr) (cap:Nat) (L:List TkM) (m:Int) (w:World) (h:Toks w b s l (.slice ao L.length cap) L) (hs:s.size≤65536) (hm:w.cell? ⟨0,0,none⟩=some (.int .i64 m)) (hL:L.length≤1000000)
    (l':Bs) (hl:l=60::47::l') (hno:sNote.isPrefixOf l=false) (hno2:sData.isPrefixOf l=false) (hh:pos s l=0→isHead l=false) :
    Calls Tryz.prog 53 #[.pointer (some ⟨b,0,none⟩)] w (OutT b s (pos s l) L w (closeR l')):=by
 have hlt0:=h.rd.box.lt;have c1:=h.rd.c1;have H0:=Lib.hid h;have hs2:s.size≤1000000:=by omega
 have HM:=Lib.hid hm;have hp:=pos_add h.rd.suf;have hpb:(pos s l:Int)≤65536:=by omega
 have HA:Hid (∀ w,Rd w b s l (.slice ao L.length cap)→Calls Tryz.prog 80 #[.pointer (some ⟨b,0,none⟩),.string ⟨#[60,33,45,45]⟩] w (Qt (.bool false) w)):=fun w h=>by
  have:=has_pre b s l (.slice ao L.length cap) ⟨#[60,33,45,45]⟩ w h
  rw [show (⟨#[60,33,45,45]⟩:S).data.toList.isPrefixOf l=false from hno] at this; exact this
 have HB:Hid (∀ w,Rd w b s l (.slice ao L.length cap)→Calls Tryz.prog 80 #[.pointer (some ⟨b,0,none⟩),.string ⟨#[60,33,91,67,68,65,84,65,91]⟩] w (Qt (.bool false) w)):=fun w h=>by
  have:=has_pre b s l (.slice ao L.length cap) ⟨#[60,33,91,67,68,65,84,65,91]⟩ w h
  rw [show (⟨#[60,33,91,67,68,65,84,65,91]⟩:S).data.toList.isPrefixOf l=false from hno2] at this; exact this
 have HC:Hid (∀ w,Rd w b s l (.slice ao L.length cap)→Calls Tryz.prog 80 #[.pointer (some ⟨b,0,none⟩),.string ⟨#[60,47]⟩] w (Qt (.bool true) w)):=fun w h=>by
  have:=has_pre b s l (.slice ao L.length cap) ⟨#[60,47]⟩ w h
  rw [show (⟨#[60,47]⟩:S).data.toList.isPrefixOf l=true from (by rw [hl]; rfl)] at this; exact this
 have HSUF:Hid (l' <:+ s.data.toList):=by have:=h.rd.suf; rw [hl] at this; exact suf_tail (suf_tail this)
 have HPOS:Hid (pos s l'=pos s l+2):=by have h1:=pos_add HSUF.out; rw [hl] at hp ⊢; simp only [List.length_cons] at hp; show _=_; omega
 clear hno hno2 hl h hm;by_cases hp0:pos s l=0
 · have e0:(((pos s l:Nat):Int) == 0)=true:=by rw [hp0]; rfl
   have HIH:Hid (∀ w,Rd w b s l (.slice ao L.length cap)→Calls Tryz.prog 82 #[.pointer (some ⟨b,0,none⟩)] w (Qt (.bool false) w)):=fun w h=>by
    have:=isHead_any b s l (.slice ao L.length cap) w h hs2
    rw [show isHead l=false from hh hp0] at this; exact this
   clear hp0 hh;have hR:Rd (w.alloc (.cells #[.int .i64 0,.string ⟨#[]⟩,.slice none 0 0,.string ⟨#[]⟩,.int .i64 (pos s l),.int .i64 0,.int .i64 0] 68)) b s l (.slice ao L.length cap):=H0.out.rd.below ((Below.refl _ _).alloc (Nat.le_refl _) _);go_enter Tryz.func53,Tryz.ntmps53
   go_wp2_with fail
   refine Calls.world ?_
   intro W hW;have hx:Box W w.heap.size [.int .i64 0,.string ⟨#[]⟩,.slice none 0 0,.string ⟨#[]⟩,.int .i64 (pos s l),.int .i64 0,.int .i64 0]:=by rw [hW]; exact Box.new w _ _ _ rfl
   have hG:w.grownBy W (some b):=by rw [hW]; exact World.grownBy_alloc _ _ _
   rw [← hW] at hR;have hm:W.cell? ⟨0,0,none⟩=some (.int .i64 m):=by rw [hW,World.cell?_alloc_lt _ _ _ (by simp; omega)]; exact HM.out
   clear hW;clear c1;have c1:=hR.c1;have f1:=hR.f1;have hltW:=hR.box.lt;refine (HA.out W hR).mono ?_
   rintro e w1 ⟨rfl,n0,rfl⟩;go_wp2_with fail
   refine (HB.out _ (hR.drewN _)).mono ?_
   rintro e w1 ⟨rfl,n1,rfl⟩;go_wp2_with fail
   refine (HIH.out _ (hR.drewN _)).mono ?_
   rintro e w1 ⟨rfl,n2,rfl⟩;go_wp2_with fail
   refine (HC.out _ (hR.drewN _)).mono ?_
   rintro e w1 ⟨rfl,n3,rfl⟩;go_wp2_with fail
   refine Calls.world ?_
   intro W2 hW2;have hRa:Rd W2 b s l' (.slice ao L.length cap):=by rw [hW2]; exact (hR.drewN _).move HSUF.out (v:=.int .i64 ((pos s l:Int)+2)) (by rw [HPOS.out]; rfl)
   have hxa:Box W2 w.heap.size [.int .i64 0,.string ⟨#[]⟩,.slice none 0 0,.string ⟨#[]⟩,.int .i64 (pos s l),.int .i64 0,.int .i64 0]:=by rw [hW2]; exact (hx.drewN _).grownB (setCell_grown _ b 1 _) (by omega)
   have hGa:w.grownBy W2 (some b):=by rw [hW2]; exact (hG.trans (grownN _ _ _)).trans (setCell_grown _ b 1 _)
   clear hW2 hx hG hR hm c1 f1 hltW;have hcall:=rname_any b s 11 l' (.slice ao L.length cap) W2 hRa hs2;cases hcl:nameR 11 l' with
   | bad x r =>
    rw [hcl] at hcall;have HP:=Lib.hid hcl;clear hcl;have HCL:=Lib.hid hcall;clear hcall hRa hxa;go_wp2_with fail
    refine HCL.out.mono ?_
    intro e w2 hO;obtain ⟨rfl,hg⟩:Bad x s r b _ e w2:=hO;go_wp2
    rw [show closeR l' = .bad x r by unfold closeR; rw [HP.out]; rfl];exact ⟨rfl,rfl,below_grown (hGa.trans hg) (by omega)⟩
   | ok nm r1 =>
    rw [hcl] at hcall;have HP:=Lib.hid hcl;clear hcl;have HCL:=Lib.hid hcall;clear hcall;go_wp2_with fail
    refine HCL.out.mono ?_
    intro e w2 hO;obtain ⟨rfl,hR2,hg⟩:Goes (.string (bs nm)) b s r1 (.slice ao L.length cap) _ e w2:=hO;have hx2:=hxa.grownB hg (by omega);have hG2:=hGa.trans hg;have q0:=hx2.cell 0 _ rfl;have q1:=hx2.cell 1 _ rfl;have qf0:=hx2.free 0;have qf1:=hx2.free 1;have qlt:=hx2.lt;clear hxa hGa hg hRa HCL;go_wp2_with fail
    refine Calls.world ?_
    intro W4 hW4;have hx4:Box W4 w.heap.size [.int .i64 3,.string (bs nm),.slice none 0 0,.string ⟨#[]⟩,.int .i64 (pos s l),.int .i64 0,.int .i64 0]:=by rw [hW4]; exact (hx2.set 0 _).set 1 _
    have hR4:Rd W4 b s r1 (.slice ao L.length cap):=by rw [hW4]; exact (hR2.setOther (by omega) _ _).setOther (by omega) _ _
    have hG4:w.grownBy W4 (some b):=by rw [hW4]; exact grown_set (grown_set hG2 (Nat.le_refl _) _ _) (Nat.le_refl _) _ _
    clear hW4 hx2 hG2 hR2 q0 q1 qf0 qf1 qlt;refine (blanks_any b s r1 (.slice ao L.length cap) W4 hR4 hs2).mono ?_
    intro e w5 hO;obtain ⟨rfl,hR5,hg5⟩:=hO;have hx5:=hx4.grownB hg5 (by omega);have hG5:=hG4.trans hg5;clear hx4 hG4 hR4 hg5;have hcall:=want_any b s 62 (blanks r1) (.slice ao L.length cap) w5 hR5 hs2;cases hcl:wantC 62 (blanks r1) with
    | bad x r =>
     rw [hcl] at hcall;have HP2:=Lib.hid hcl;clear hcl;have HCL:=Lib.hid hcall;clear hcall hR5 hx5;go_wp2_with fail
     refine HCL.out.mono ?_
     intro e w2 hO;obtain ⟨rfl,hg⟩:Bad x s r b _ e w2:=hO;go_wp2
     rw [show closeR l' = .bad x r by unfold closeR; rw [HP.out]; simp only [Res.bind]; rw [HP2.out]; rfl];exact ⟨rfl,rfl,below_grown (hG5.trans hg) (by omega)⟩
    | ok u r =>
     rw [hcl] at hcall;have HP2:=Lib.hid hcl;clear hcl;have HCL:=Lib.hid hcall;clear hcall;go_wp2_with fail
     refine HCL.out.mono ?_
     intro e W3 hO;obtain ⟨rfl,hR3,hg⟩:Goes (.tuple #[]) b s r (.slice ao L.length cap) _ e W3:=hO;have hx3:=hx5.grownB hg (by omega);have hG3:=hG5.trans hg;have HAV:Hid (Owns (b+1) 139 2 atC W3 (.slice none 0 0) ([]:List At2)):=Owns.nil;clear hx5 hG5 hg hR5 HCL;go_wp2
     have c2:=hR3.c2;have f2:=hR3.box.free 2;have hlt3:=hR3.box.lt;have t0:=hx3.cell 0 _ rfl;have t1:=hx3.cell 1 _ rfl;have t2:=hx3.cell 2 _ rfl;have t3:=hx3.cell 3 _ rfl;have t4:=hx3.cell 4 _ rfl;have t5:=hx3.cell 5 _ rfl;have t6:=hx3.cell 6 _ rfl;have tlt:=hx3.lt;have HT3:=Lib.hid (H0.out.kept hG3 hR3);have HR3:=Lib.hid hR3;have HG3:=Lib.hid hG3;clear hx3 hR3 hG3;have hne8:Hid (some b≠(Value.slice ao L.length cap).ownBlock):=fun e=>by have:=(HT3.out.own.lt b e.symm).1; omega
     have hbx8:Hid (Box ((W3.alloc (.cells (tkC ⟨⟨3,nm,[],[]⟩,.slice none 0 0,pos s l,0,0⟩).toArray 68)).drew) b [.string s,.int .i64 (pos s r:Nat),.slice ao L.length cap]):=(HR3.out.box.alloc _).drew;have hnw : ∀ j u,(tkC ⟨⟨3,nm,[],[]⟩,.slice none 0 0,pos s l,0,0⟩)[j]? = some u→((W3.alloc (.cells (tkC ⟨⟨3,nm,[],[]⟩,.slice none 0 0,pos s l,0,0⟩).toArray 68)).drew).cell? ⟨W3.heap.size,j,none⟩=some u:=fun j u hu=>(Box.new W3 (tkC ⟨⟨3,nm,[],[]⟩,.slice none 0 0,pos s l,0,0⟩) 68 _ rfl).cell j u hu;have hco : ∀ u ∈ tkC ⟨⟨3,nm,[],[]⟩,.slice none 0 0,pos s l,0,0⟩,u.oneCell'=true:=by intro u hu; simp [tkC] at hu; rcases hu with rfl | rfl | rfl | rfl | rfl | rfl | rfl <;> rfl
     have HNW:=Lib.hid hnw;have HCO:=Lib.hid hco;have hown4:=Lib.hid ((HT3.out.own.alloc (.cells (tkC ⟨⟨3,nm,[],[]⟩,.slice none 0 0,pos s l,0,0⟩).toArray 68)).drew);have hbl:Hid ((L.length+1)*88≤140737488355328):=by show _≤_; omega
     have hbs:Hid (b+1≤((W3.alloc (.cells (tkC ⟨⟨3,nm,[],[]⟩,.slice none 0 0,pos s l,0,0⟩).toArray 68)).drew).heap.size):=by show _≤_; simp; omega
     have hsz4:Hid (((W3.alloc (.cells (tkC ⟨⟨3,nm,[],[]⟩,.slice none 0 0,pos s l,0,0⟩).toArray 68)).drew).heap.size=W3.heap.size+1):=by show _=_; simp
     clear hnw hco;go_region_law (first | (refine step_append_one rfl (.tmp 110) (.tmp 112) 60 rfl (b+1) 68 Tryz.underlying60 info_token rfl (by decide) tkC_len (.slice ao L.length cap) L (by simp [Act.eval]) hown4.out W3.heap.size ⟨⟨3,nm,[],[]⟩,.slice none 0 0,pos s l,0,0⟩ (by simp [Act.eval]) HNW.out HCO.out hbl.out (by decide) hbs.out (W3.heap.size+1) hsz4.out ?_; intro g8 cap8 w8 hown8 hgrow8 hat8 hlt8; have hb9:=Lib.hid (hbx8.out.grown hgrow8 hne8.out); have e2:=hb9.out.cell 2 _ rfl; have ef2:=hb9.out.free 2; have el2:=hb9.out.lt; have ho9:=Lib.hid hown8; have hg9:=Lib.hid hgrow8; clear hown8 hgrow8 hat8))
     all_goals
      go_end0
      rw [show closeR l' = .ok ⟨3,nm,[],[]⟩ r by unfold closeR; rw [HP.out]; simp only [Res.bind]; rw [HP2.out]; rfl];obtain ⟨h1,h2⟩:=HT3.out.push HG3.out hlt0 (x:=⟨⟨3,nm,[],[]⟩,.slice none 0 0,pos s l,0,0⟩) HAV.out hg9.out ho9.out;exact ⟨rfl,_,_,h1,h2⟩
 · have e0:(((pos s l:Nat):Int) == 0)=false:=beq_eq_false_iff_ne.2 (by omega)
   clear hp0 hh;have hR:Rd (w.alloc (.cells #[.int .i64 0,.string ⟨#[]⟩,.slice none 0 0,.string ⟨#[]⟩,.int .i64 (pos s l),.int .i64 0,.int .i64 0] 68)) b s l (.slice ao L.length cap):=H0.out.rd.below ((Below.refl _ _).alloc (Nat.le_refl _) _);go_enter Tryz.func53,Tryz.ntmps53
   go_wp2_with fail
   refine Calls.world ?_
   intro W hW;have hx:Box W w.heap.size [.int .i64 0,.string ⟨#[]⟩,.slice none 0 0,.string ⟨#[]⟩,.int .i64 (pos s l),.int .i64 0,.int .i64 0]:=by rw [hW]; exact Box.new w _ _ _ rfl
   have hG:w.grownBy W (some b):=by rw [hW]; exact World.grownBy_alloc _ _ _
   rw [← hW] at hR;have hm:W.cell? ⟨0,0,none⟩=some (.int .i64 m):=by rw [hW,World.cell?_alloc_lt _ _ _ (by simp; omega)]; exact HM.out
   clear hW;clear c1;have c1:=hR.c1;have f1:=hR.f1;have hltW:=hR.box.lt;refine (HA.out W hR).mono ?_
   rintro e w1 ⟨rfl,n0,rfl⟩;go_wp2_with fail
   refine (HB.out _ (hR.drewN _)).mono ?_
   rintro e w1 ⟨rfl,n1,rfl⟩;go_wp2_with fail
   refine (HC.out _ (hR.drewN _)).mono ?_
   rintro e w1 ⟨rfl,n2,rfl⟩;go_wp2_with fail
   refine Calls.world ?_
   intro W2 hW2;have hRa:Rd W2 b s l' (.slice ao L.length cap):=by rw [hW2]; exact (hR.drewN _).move HSUF.out (v:=.int .i64 ((pos s l:Int)+2)) (by rw [HPOS.out]; rfl)
   have hxa:Box W2 w.heap.size [.int .i64 0,.string ⟨#[]⟩,.slice none 0 0,.string ⟨#[]⟩,.int .i64 (pos s l),.int .i64 0,.int .i64 0]:=by rw [hW2]; exact (hx.drewN _).grownB (setCell_grown _ b 1 _) (by omega)
   have hGa:w.grownBy W2 (some b):=by rw [hW2]; exact (hG.trans (grownN _ _ _)).trans (setCell_grown _ b 1 _)
   clear hW2 hx hG hR hm c1 f1 hltW;have hcall:=rname_any b s 11 l' (.slice ao L.length cap) W2 hRa hs2;cases hcl:nameR 11 l' with
   | bad x r =>
    rw [hcl] at hcall;have HP:=Lib.hid hcl;clear hcl;have HCL:=Lib.hid hcall;clear hcall hRa hxa;go_wp2_with fail
    refine HCL.out.mono ?_
    intro e w2 hO;obtain ⟨rfl,hg⟩:Bad x s r b _ e w2:=hO;go_wp2
    rw [show closeR l' = .bad x r by unfold closeR; rw [HP.out]; rfl];exact ⟨rfl,rfl,below_grown (hGa.trans hg) (by omega)⟩
   | ok nm r1 =>
    rw [hcl] at hcall;have HP:=Lib.hid hcl;clear hcl;have HCL:=Lib.hid hcall;clear hcall;go_wp2_with fail
    refine HCL.out.mono ?_
    intro e w2 hO;obtain ⟨rfl,hR2,hg⟩:Goes (.string (bs nm)) b s r1 (.slice ao L.length cap) _ e w2:=hO;have hx2:=hxa.grownB hg (by omega);have hG2:=hGa.trans hg;have q0:=hx2.cell 0 _ rfl;have q1:=hx2.cell 1 _ rfl;have qf0:=hx2.free 0;have qf1:=hx2.free 1;have qlt:=hx2.lt;clear hxa hGa hg hRa HCL;go_wp2_with fail
    refine Calls.world ?_
    intro W4 hW4;have hx4:Box W4 w.heap.size [.int .i64 3,.string (bs nm),.slice none 0 0,.string ⟨#[]⟩,.int .i64 (pos s l),.int .i64 0,.int .i64 0]:=by rw [hW4]; exact (hx2.set 0 _).set 1 _
    have hR4:Rd W4 b s r1 (.slice ao L.length cap):=by rw [hW4]; exact (hR2.setOther (by omega) _ _).setOther (by omega) _ _
    have hG4:w.grownBy W4 (some b):=by rw [hW4]; exact grown_set (grown_set hG2 (Nat.le_refl _) _ _) (Nat.le_refl _) _ _
    clear hW4 hx2 hG2 hR2 q0 q1 qf0 qf1 qlt;refine (blanks_any b s r1 (.slice ao L.length cap) W4 hR4 hs2).mono ?_
    intro e w5 hO;obtain ⟨rfl,hR5,hg5⟩:=hO;have hx5:=hx4.grownB hg5 (by omega);have hG5:=hG4.trans hg5;clear hx4 hG4 hR4 hg5;have hcall:=want_any b s 62 (blanks r1) (.slice ao L.length cap) w5 hR5 hs2;cases hcl:wantC 62 (blanks r1) with
    | bad x r =>
     rw [hcl] at hcall;have HP2:=Lib.hid hcl;clear hcl;have HCL:=Lib.hid hcall;clear hcall hR5 hx5;go_wp2_with fail
     refine HCL.out.mono ?_
     intro e w2 hO;obtain ⟨rfl,hg⟩:Bad x s r b _ e w2:=hO;go_wp2
     rw [show closeR l' = .bad x r by unfold closeR; rw [HP.out]; simp only [Res.bind]; rw [HP2.out]; rfl];exact ⟨rfl,rfl,below_grown (hG5.trans hg) (by omega)⟩
    | ok u r =>
     rw [hcl] at hcall;have HP2:=Lib.hid hcl;clear hcl;have HCL:=Lib.hid hcall;clear hcall;go_wp2_with fail
     refine HCL.out.mono ?_
     intro e W3 hO;obtain ⟨rfl,hR3,hg⟩:Goes (.tuple #[]) b s r (.slice ao L.length cap) _ e W3:=hO;have hx3:=hx5.grownB hg (by omega);have hG3:=hG5.trans hg;have HAV:Hid (Owns (b+1) 139 2 atC W3 (.slice none 0 0) ([]:List At2)):=Owns.nil;clear hx5 hG5 hg hR5 HCL;go_wp2
     have c2:=hR3.c2;have f2:=hR3.box.free 2;have hlt3:=hR3.box.lt;have t0:=hx3.cell 0 _ rfl;have t1:=hx3.cell 1 _ rfl;have t2:=hx3.cell 2 _ rfl;have t3:=hx3.cell 3 _ rfl;have t4:=hx3.cell 4 _ rfl;have t5:=hx3.cell 5 _ rfl;have t6:=hx3.cell 6 _ rfl;have tlt:=hx3.lt;have HT3:=Lib.hid (H0.out.kept hG3 hR3);have HR3:=Lib.hid hR3;have HG3:=Lib.hid hG3;clear hx3 hR3 hG3;have hne8:Hid (some b≠(Value.slice ao L.length cap).ownBlock):=fun e=>by have:=(HT3.out.own.lt b e.symm).1; omega
     have hbx8:Hid (Box ((W3.alloc (.cells (tkC ⟨⟨3,nm,[],[]⟩,.slice none 0 0,pos s l,0,0⟩).toArray 68)).drew) b [.string s,.int .i64 (pos s r:Nat),.slice ao L.length cap]):=(HR3.out.box.alloc _).drew;have hnw : ∀ j u,(tkC ⟨⟨3,nm,[],[]⟩,.slice none 0 0,pos s l,0,0⟩)[j]? = some u→((W3.alloc (.cells (tkC ⟨⟨3,nm,[],[]⟩,.slice none 0 0,pos s l,0,0⟩).toArray 68)).drew).cell? ⟨W3.heap.size,j,none⟩=some u:=fun j u hu=>(Box.new W3 (tkC ⟨⟨3,nm,[],[]⟩,.slice none 0 0,pos s l,0,0⟩) 68 _ rfl).cell j u hu;have hco : ∀ u ∈ tkC ⟨⟨3,nm,[],[]⟩,.slice none 0 0,pos s l,0,0⟩,u.oneCell'=true:=by intro u hu; simp [tkC] at hu; rcases hu with rfl | rfl | rfl | rfl | rfl | rfl | rfl <;> rfl
     have HNW:=Lib.hid hnw;have HCO:=Lib.hid hco;have hown4:=Lib.hid ((HT3.out.own.alloc (.cells (tkC ⟨⟨3,nm,[],[]⟩,.slice none 0 0,pos s l,0,0⟩).toArray 68)).drew);have hbl:Hid ((L.length+1)*88≤140737488355328):=by show _≤_; omega
     have hbs:Hid (b+1≤((W3.alloc (.cells (tkC ⟨⟨3,nm,[],[]⟩,.slice none 0 0,pos s l,0,0⟩).toArray 68)).drew).heap.size):=by show _≤_; simp; omega
     have hsz4:Hid (((W3.alloc (.cells (tkC ⟨⟨3,nm,[],[]⟩,.slice none 0 0,pos s l,0,0⟩).toArray 68)).drew).heap.size=W3.heap.size+1):=by show _=_; simp
     clear hnw hco;go_region_law (first | (refine step_append_one rfl (.tmp 110) (.tmp 112) 60 rfl (b+1) 68 Tryz.underlying60 info_token rfl (by decide) tkC_len (.slice ao L.length cap) L (by simp [Act.eval]) hown4.out W3.heap.size ⟨⟨3,nm,[],[]⟩,.slice none 0 0,pos s l,0,0⟩ (by simp [Act.eval]) HNW.out HCO.out hbl.out (by decide) hbs.out (W3.heap.size+1) hsz4.out ?_; intro g8 cap8 w8 hown8 hgrow8 hat8 hlt8; have hb9:=Lib.hid (hbx8.out.grown hgrow8 hne8.out); have e2:=hb9.out.cell 2 _ rfl; have ef2:=hb9.out.free 2; have el2:=hb9.out.lt; have ho9:=Lib.hid hown8; have hg9:=Lib.hid hgrow8; clear hown8 hgrow8 hat8))
     all_goals
      go_end0
      rw [show closeR l' = .ok ⟨3,nm,[],[]⟩ r by unfold closeR; rw [HP.out]; simp only [Res.bind]; rw [HP2.out]; rfl];obtain ⟨h1,h2⟩:=HT3.out.push HG3.out hlt0 (x:=⟨⟨3,nm,[],[]⟩,.slice none 0 0,pos s l,0,0⟩) HAV.out hg9.out ho9.out;exact ⟨rfl,_,_,h1,h2⟩
end Go.Proofs.YtecffghcpknmjaaGreatDoor
