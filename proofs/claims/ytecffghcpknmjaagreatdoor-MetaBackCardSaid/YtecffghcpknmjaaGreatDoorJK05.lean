/- Walks of the document's Is and of span and Name, the program's and the document's; their conditions stand in the theorems. -/
import Derived.Test.YtecffghcpknmjaaGreatDoorJK04
import Derived.LoopTactic
import Derived.Test.YtecffghcpknmjaaGreatDoorOwn2
import Derived.Test.YtecffghcpknmjaaGreatDoorQB
import Derived.Test.YtecffghcpknmjaaGreatDoorG2
import Derived.Test.YtecffghcpknmjaaGreatDoorK19
import Derived.Test.YtecffghcpknmjaaGreatDoorK4
import Derived.Test.YtecffghcpknmjaaGreatDoorR0
import Derived.Test.YtecffghcpknmjaaGreatDoorL0
import Derived.Test.YtecffghcpknmjaaGreatDoorSB
import Derived.Laws.Cover4
import Derived.IntWalk
import Derived.Test.YtecffghcpknmjaaGreatDoorShelf
import Derived.Shelf.Strings.BuilderX
import Derived.Lib.Walk
import Derived.Lib.Builder
import Derived.Lib.AppendStr
import Derived.Lib.UnsafeStr
import Derived.WalkKit
import Derived.WalkSpells
import Derived.Laws.Externs
import Derived.Lib.Hide
namespace Go.Proofs.YtecffghcpknmjaaGreatDoor
open Go Go.RowKit
set_option maxHeartbeats 1000000 in
theorem is1_any (c:UInt8) (w:World):Calls Tryz.prog 96 #[.int .u8 c.toNat,.int .i64 1] w fun e w'=>e = .returned (.bool (cBlank c))∧w=w':=by
 have h1:=Lib.hid (classV_is c);have h2:=(classV_is c).2.2.2.2.1;have h3:=(classV_is c).2.2.2.2.2;have hc:=class_any c w;have HC:=Lib.hid hc;clear hc;generalize classV c=v at *;go_enter Tryz.func96,Tryz.ntmps96
 go_wp2_with (go_at_call 122; refine HC.out.mono ?_; rintro e w' ⟨rfl,rfl⟩)
 go_ret
 refine ⟨ret_bool ?_,rfl⟩
 have h4:=h1.out.1;cases hp:cBlank c <;> rw [hp] at h4 <;> simp at h4 ⊢ <;> omega
set_option maxHeartbeats 1000000 in
theorem is4_any (c:UInt8) (w:World):Calls Tryz.prog 96 #[.int .u8 c.toNat,.int .i64 4] w fun e w'=>e = .returned (.bool (cFirst c))∧w=w':=by
 have h1:=Lib.hid (classV_is c);have h2:=(classV_is c).2.2.2.2.1;have h3:=(classV_is c).2.2.2.2.2;have hc:=class_any c w;have HC:=Lib.hid hc;clear hc;generalize classV c=v at *;go_enter Tryz.func96,Tryz.ntmps96
 go_wp2_with (go_at_call 122; refine HC.out.mono ?_; rintro e w' ⟨rfl,rfl⟩)
 go_ret
 refine ⟨ret_bool ?_,rfl⟩
 have h4:=h1.out.2.1;cases hp:cFirst c <;> rw [hp] at h4 <;> simp at h4 ⊢ <;> omega
set_option maxHeartbeats 1000000 in
theorem is8_any (c:UInt8) (w:World):Calls Tryz.prog 96 #[.int .u8 c.toNat,.int .i64 8] w fun e w'=>e = .returned (.bool (cName c))∧w=w':=by
 have h1:=Lib.hid (classV_is c);have h2:=(classV_is c).2.2.2.2.1;have h3:=(classV_is c).2.2.2.2.2;have hc:=class_any c w;have HC:=Lib.hid hc;clear hc;generalize classV c=v at *;go_enter Tryz.func96,Tryz.ntmps96
 go_wp2_with (go_at_call 122; refine HC.out.mono ?_; rintro e w' ⟨rfl,rfl⟩)
 go_ret
 refine ⟨ret_bool ?_,rfl⟩
 have h4:=h1.out.2.2.1;cases hp:cName c <;> rw [hp] at h4 <;> simp at h4 ⊢ <;> omega
set_option maxHeartbeats 1000000 in
theorem is16_any (c:UInt8) (w:World):Calls Tryz.prog 96 #[.int .u8 c.toNat,.int .i64 16] w fun e w'=>e = .returned (.bool (cText c))∧w=w':=by
 have h1:=Lib.hid (classV_is c);have h2:=(classV_is c).2.2.2.2.1;have h3:=(classV_is c).2.2.2.2.2;have hc:=class_any c w;have HC:=Lib.hid hc;clear hc;generalize classV c=v at *;go_enter Tryz.func96,Tryz.ntmps96
 go_wp2_with (go_at_call 122; refine HC.out.mono ?_; rintro e w' ⟨rfl,rfl⟩)
 go_ret
 refine ⟨ret_bool ?_,rfl⟩
 have h4:=h1.out.2.2.2.1;cases hp:cText c <;> rw [hp] at h4 <;> simp at h4 ⊢ <;> omega
set_option maxHeartbeats 1000000 in
theorem spanName_any (s:S) (w:World) (hs:s.size≤9223372036854775807) :
    Calls Tryz.prog 70 #[.string s,.func (.func 99) #[] #[]] w fun e w'=>e = .returned (.int .i64 (span (cName) s.data.toList))∧w=w':=by
 have hsp:=span_le (cName) s.data.toList;rw [size_data] at hsp;go_enter Tryz.func70,Tryz.ntmps70
 go_wp2
 go_loop [5] (fun i=>∃ k:Nat,k≤s.size∧i = .int .i64 k∧Hid (span (cName) s.data.toList=k+span (cName) (s.data.toList.drop k))) (fun i=>s.size - (intOf i).toNat)
 case atStart=>exact ⟨0,Nat.zero_le _,rfl,by show _=_; simp⟩
 case round =>
  obtain ⟨k,hk,rfl,H⟩:=hrel;by_cases hlt:k<s.size
  · have HD:=Lib.hid (drop_byte s k hlt)
    cases hp:cName s[k]
    all_goals
     have HP:=Lib.hid hp;clear hp;go_wp2_with (go_at_call 99; refine (isName_any _ _).mono ?_; rintro e w' ⟨rfl,rfl⟩; rw [HP.out])
    · go_ret
      exact ⟨ret_int (by rw [H.out,HD.out]; simp [span,HP.out]),rfl⟩
    · go_round
      case rel=>exact ⟨k+1,by omega,by go_num,by show _=_; rw [H.out,HD.out]; simp only [span,HP.out,if_true]; omega⟩
      case measure=>simp [intOf]; omega
  · go_wp2
    go_ret
    exact ⟨ret_int (by rw [H.out,List.drop_of_length_le (by rw [size_data]; omega)]; simp [span]),rfl⟩
set_option maxHeartbeats 1000000 in
theorem spanLower_any (s:S) (w:World) (hs:s.size≤9223372036854775807) :
    Calls Tryz.prog 70 #[.string s,.func (.func 134) #[] #[]] w fun e w'=>e = .returned (.int .i64 (span (cLower) s.data.toList))∧w=w':=by
 have hsp:=span_le (cLower) s.data.toList;rw [size_data] at hsp;go_enter Tryz.func70,Tryz.ntmps70
 go_wp2
 go_loop [5] (fun i=>∃ k:Nat,k≤s.size∧i = .int .i64 k∧Hid (span (cLower) s.data.toList=k+span (cLower) (s.data.toList.drop k))) (fun i=>s.size - (intOf i).toNat)
 case atStart=>exact ⟨0,Nat.zero_le _,rfl,by show _=_; simp⟩
 case round =>
  obtain ⟨k,hk,rfl,H⟩:=hrel;by_cases hlt:k<s.size
  · have HD:=Lib.hid (drop_byte s k hlt)
    cases hp:cLower s[k]
    all_goals
     have HP:=Lib.hid hp;clear hp;go_wp2_with (go_at_call 134; refine (isLower_any _ _).mono ?_; rintro e w' ⟨rfl,rfl⟩; rw [HP.out])
    · go_ret
      exact ⟨ret_int (by rw [H.out,HD.out]; simp [span,HP.out]),rfl⟩
    · go_round
      case rel=>exact ⟨k+1,by omega,by go_num,by show _=_; rw [H.out,HD.out]; simp only [span,HP.out,if_true]; omega⟩
      case measure=>simp [intOf]; omega
  · go_wp2
    go_ret
    exact ⟨ret_int (by rw [H.out,List.drop_of_length_le (by rw [size_data]; omega)]; simp [span]),rfl⟩
theorem is_any (c:UInt8) (k:Int) (w:World) (hk:k=1∨k=4∨k=8∨k=16):Calls Tryz.prog 96 #[.int .u8 c.toNat,.int .i64 k] w fun e w'=>e = .returned (.bool (inClass k c))∧w=w':=by
 rcases hk with rfl | rfl | rfl | rfl
 · exact is1_any c w
 · exact is4_any c w
 · exact is8_any c w
 · exact is16_any c w
theorem first_name {c:UInt8} (h:cName c=false):cFirst c=false:=by
 cases h2:cFirst c
 · rfl
 · simp [cName,h2] at h
set_option maxHeartbeats 1000000 in
theorem name_any (s:S) (w:World) (hs:s.size≤9223372036854775807) :
    Calls Tryz.prog 117 #[.string s] w fun e w'=>e = .returned (.int .i64 (nameLen s.data.toList))∧w=w':=by
 have hE0:=empty_data s;by_cases h0:s.size=0
 · have hE:s.toList.isEmpty=true:=by rw [hE0]; simpa using h0
   clear hE0;have hd:s.data.toList=[]:=List.eq_nil_of_length_eq_zero (by rw [size_data,h0]);rw [hd];clear hd h0;go_enter Tryz.func117,Tryz.ntmps117
   go_wp2
   go_ret
   exact ⟨rfl,rfl⟩
 · have hE:s.toList.isEmpty=false:=by rw [hE0]; simpa using h0
   clear hE0;have h1:0<s.size:=by omega
   have HD:=Lib.hid (drop_byte s 0 h1);clear h0;cases hp:cFirst s[0]
   all_goals
    have HP:=Lib.hid hp;clear hp;go_enter Tryz.func117,Tryz.ntmps117
    go_wp2_with (first | (go_at_call 124; refine (isFirst_any _ _).mono ?_; rintro e w' ⟨rfl,rfl⟩; rw [HP.out]) | (go_at_call 70; refine (spanName_any s _ hs).mono ?_; rintro e w' ⟨rfl,rfl⟩))
    go_ret
    refine ⟨ret_int ?_,rfl⟩
    have h2:=HD.out;rw [List.drop_zero] at h2;rw [h2];simp [nameLen,HP.out]
set_option maxHeartbeats 1000000 in
theorem refName_any (s:S) (w:World) (hs:s.size≤9223372036854775807) :
    Calls Tryz.prog 95 #[.string s] w fun e w'=>e = .returned (.int .i64 (nameLen s.data.toList))∧w=w':=by
 have hsp:=nameLen_le s.data.toList;rw [size_data] at hsp;go_enter Tryz.func95,Tryz.ntmps95
 go_wp2
 go_loop [3,4] (fun n i=>∃ k:Nat,k≤s.size∧n = .int .i64 k∧i = .int .i64 k∧Hid (k=0∨nameLen s.data.toList=k+span cName (s.data.toList.drop k))) (fun _ i=>s.size - (intOf i).toNat)
 case atStart=>exact ⟨0,Nat.zero_le _,rfl,rfl,.inl rfl⟩
 case round =>
  obtain ⟨k,hk,rfl,rfl,H⟩:=hrel;by_cases hlt:k<s.size
  · have HD:=Lib.hid (drop_byte s k hlt)
    cases k with
    | zero =>
     cases hp:cName s[0]
     · have HP:Hid (inClass 8 s[0]=false):=hp
       have HF:=Lib.hid (first_name hp);clear hp;go_wp2_with (go_at_call 96; refine (is_any _ _ _ (by decide)).mono ?_; rintro e w' ⟨rfl,rfl⟩; rw [HP.out])
       go_ret
       refine ⟨ret_int ?_,rfl⟩
       have h2:=HD.out;rw [List.drop_zero] at h2;rw [h2];simp [nameLen,HF.out]
     · have HP:Hid (inClass 8 s[0]=true):=hp
       have HQ:Hid (cName s[0]=true):=hp;clear hp;cases hf:cFirst s[0]
       all_goals
        have HF:Hid (inClass 4 s[0]=_):=hf;have HG:=Lib.hid hf;clear hf;go_wp2_with (go_at_call 96; refine (is_any _ _ _ (by decide)).mono ?_; rintro e w' ⟨rfl,rfl⟩; first | rw [HP.out] | rw [HF.out])
       · go_ret
         refine ⟨ret_int ?_,rfl⟩
         have h2:=HD.out;rw [List.drop_zero] at h2;rw [h2];simp [nameLen,HG.out]
       · go_round
         case rel =>
          refine ⟨1,by omega,rfl,rfl,.inr ?_⟩
          have h2:=HD.out;rw [List.drop_zero] at h2;conv=>lhs; rw [h2]
          simp [nameLen,HG.out,span,HQ.out]; omega
         case measure=>simp [intOf]; omega
    | succ k =>
     have hk0:(((k+1:Nat):Int) == 0)=false:=by simp; omega
     cases hp:cName s[k+1]
     all_goals
      have HP:Hid (inClass 8 s[k+1]=_):=hp;have HQ:=Lib.hid hp;clear hp;go_wp2_with (go_at_call 96; refine (is_any _ _ _ (by decide)).mono ?_; rintro e w' ⟨rfl,rfl⟩; rw [HP.out])
     · go_ret
       refine ⟨ret_int ?_,rfl⟩
       rcases H.out with h | h
       · omega
       · rw [h,HD.out]; simp [span,HQ.out]
     · go_round
       case rel =>
        refine ⟨k+1+1,by omega,by go_num,by go_num,.inr ?_⟩
        rcases H.out with h | h
        · omega
        · rw [h,HD.out]; simp [span,HQ.out]; omega
       case measure=>simp [intOf]; omega
  · go_wp2
    go_ret
    refine ⟨ret_int ?_,rfl⟩
    rcases H.out with h | h
    · have:s.data.toList=[]:=List.eq_nil_of_length_eq_zero (by rw [size_data]; omega)
      rw [this,h]; rfl
    · rw [h,List.drop_of_length_le (by rw [size_data]; omega)]; simp [span]
theorem digitV_le (c:UInt8) (hex:Bool) : -1≤digitV c hex∧digitV c hex≤15:=by
 have:=c.toNat_lt
 unfold digitV;split
 · rename_i h; simp [cDigit] at h; omega
 · split
   · rename_i h; simp at h; omega
   · split
     · rename_i h; simp at h; omega
     · omega
set_option maxHeartbeats 1000000 in
theorem digit_any (c:UInt8) (hex:Bool) (w:World):Calls Tryz.prog 147 #[.int .u8 c.toNat,.int .i64 (baseOf hex)] w fun e w'=>e = .returned (.int .i64 (digitV c hex))∧w=w':=by
 have hlt:=c.toNat_lt;cases hd:cDigit c
 · have HD:=Lib.hid hd
   have hd' : ¬ (48≤c.toNat∧c.toNat≤57):=by simpa [cDigit] using hd
   clear hd;cases hex
   · simp only [baseOf,Bool.false_eq_true,if_false]
     go_enter Tryz.func147,Tryz.ntmps147
     go_wp2_with (go_at_call 72; refine (isDigit_any _ _).mono ?_; rintro e w' ⟨rfl,rfl⟩; rw [HD.out])
     go_ret
     exact ⟨ret_int (by simp [digitV,HD.out]),rfl⟩
   · simp only [baseOf,if_true]
     have hc:(c.toNat:Int)<65∨(65≤(c.toNat:Int)∧(c.toNat:Int)≤70)∨(70<(c.toNat:Int)∧(c.toNat:Int)<97)∨(97≤(c.toNat:Int)∧(c.toNat:Int)≤102)∨102<(c.toNat:Int):=by omega
     rcases hc with h | ⟨h,h'⟩ | ⟨h,h'⟩ | ⟨h,h'⟩ | h
     all_goals
      go_enter Tryz.func147,Tryz.ntmps147
      go_wp2_with (go_at_call 72; refine (isDigit_any _ _).mono ?_; rintro e w' ⟨rfl,rfl⟩; rw [HD.out])
      go_ret
      refine ⟨ret_int ?_,rfl⟩
      simp (disch:=omega) [digitV,HD.out,if_pos,if_neg]
      try omega
 · have HD:=Lib.hid hd
   have hd':48≤(c.toNat:Int)∧(c.toNat:Int)≤57:=by simp [cDigit] at hd; omega
   obtain ⟨hd1,hd2⟩:=hd';clear hd;go_enter Tryz.func147,Tryz.ntmps147
   go_wp2_with (go_at_call 72; refine (isDigit_any _ _).mono ?_; rintro e w' ⟨rfl,rfl⟩; rw [HD.out])
   go_ret
   exact ⟨ret_int (by simp [digitV,HD.out]),rfl⟩
def namedB (w:Bs):Bs:=match named w with
 | some c=>[c]
 | none=>[]
set_option maxHeartbeats 1000000 in
theorem named_any (s:S) (w:World):Calls Tryz.prog 135 #[.string s] w fun e w'=>e = .returned (.string (bs (namedB s.data.toList)))∧w=w':=by
 go_enter Tryz.func135,Tryz.ntmps135
 go_wp2
 all_goals (go_ret; refine ⟨?_,rfl⟩; simp_all [namedB,named,wLt,wGt,wAmp,wQuot,wApos,str_lit,bs])
theorem encode_ok {n:Int} (h:okLetter n=true):Utf8.encode n=bs (letterB n):=by
 simp only [okLetter,decide_eq_true_eq] at h;have hv:Utf8.valid n=true:=by simp [Utf8.valid]; omega
 unfold Utf8.encode letterB letterN;rw [if_pos hv];simp only [];split
 · rfl
 · split
   · rfl
   · split <;> rfl
set_option maxRecDepth 100000 in
set_option maxHeartbeats 1000000 in
theorem letter_ok (n:Int) (w:World) (h:okLetter n=true):Calls Tryz.prog 148 #[.int .i64 n] w fun e w'=>e = .returned (.tuple #[.string (bs (letterB n)),.bool true])∧Below w.heap.size w w':=by
 have hE:=Lib.hid (encode_ok h);have hh:=h;simp only [okLetter,decide_eq_true_eq] at hh
 have hcv:(convert 204 9 (.slice (some ⟨w.heap.size,0,none⟩) 1 1)).run Tryz.prog (w.alloc (.cells #[.int .i32 n] 21)) = .ok (.string (bs (letterB n))) (w.alloc (.cells #[.int .i32 n] 21)):=by
  have:=run_convert_runes (P:=Tryz.prog) (w.alloc (.cells #[.int .i32 n] 21)) 204 9 21 ⟨w.heap.size,0,none⟩ 1 1 [n] (by simp) Tryz.underlying204 Tryz.underlying21 Tryz.underlying9 (fun j hj=>by
   match j,hj with
   | 0,_=>simp [Addr.add,go_sem])
  rw [this];simp [runesBytes,hE.out]
 have hw:IntKind.i32.wrap n=n:=IntWalk.i32_in n (by omega);have hb:n=9∨n=10∨n=13∨(32≤n∧n<55296)∨(57343<n∧n≤1114111):=by omega
 clear hh hE;rcases hb with rfl | rfl | rfl | ⟨h1,h2⟩ | ⟨h1,h2⟩
 all_goals
  try have e1:(n == 9)=false:=beq_eq_false_iff_ne.2 (by omega)
  try have e2:(n == 10)=false:=beq_eq_false_iff_ne.2 (by omega)
  try have e3:(n == 13)=false:=beq_eq_false_iff_ne.2 (by omega)
  go_enter Tryz.func148,Tryz.ntmps148
  go_wp2
  all_goals first | (exfalso; omega) | (go_ret2; exact ⟨rfl,(Below.refl _ _).alloc (Nat.le_refl _) _⟩)
set_option maxRecDepth 100000 in
set_option maxHeartbeats 1000000 in
theorem letter_no (n:Int) (w:World) (h:okLetter n=false):Calls Tryz.prog 148 #[.int .i64 n] w fun e w'=>e = .returned (.tuple #[.string (bs []),.bool false])∧Below w.heap.size w w':=by
 simp only [okLetter,decide_eq_false_iff_not] at h;have e1:(n == 9)=false:=beq_eq_false_iff_ne.2 (by omega);have e2:(n == 10)=false:=beq_eq_false_iff_ne.2 (by omega);have e3:(n == 13)=false:=beq_eq_false_iff_ne.2 (by omega);have hb:n<32∨1114111<n∨(55296≤n∧n≤57343):=by omega
 clear h;rcases hb with h1 | h1 | ⟨h1,h2⟩
 all_goals
  go_enter Tryz.func148,Tryz.ntmps148
  go_wp2
  all_goals first | (exfalso; omega) | (go_ret2; exact ⟨rfl,Below.refl _ _⟩)
set_option maxHeartbeats 1000000 in
theorem isDig_any (c:UInt8) (hex:Bool) (b:Nat) (w:World) (hc:w.cell? ⟨b,0,none⟩=some (.int .i64 (baseOf hex))) :
    Calls Tryz.prog 146 #[.int .u8 c.toNat,.pointer (some ⟨b,0,none⟩)] w fun e w'=>e = .returned (.bool (isDig hex c))∧w=w':=by
 go_enter Tryz.func146,Tryz.ntmps146
 go_wp2_with (go_at_call 147; refine (digit_any c hex _).mono ?_; rintro e w' ⟨rfl,rfl⟩)
 go_ret
 exact ⟨rfl,rfl⟩
set_option maxHeartbeats 1000000 in
theorem spanDig_any (s:S) (w:World) (hex:Bool) (b:Nat) (hc:w.cell? ⟨b,0,none⟩=some (.int .i64 (baseOf hex))) (hs:s.size≤9223372036854775807) :
    Calls Tryz.prog 70 #[.string s,.func (.func 146) #[] #[.pointer (some ⟨b,0,none⟩)]] w fun e w'=>e = .returned (.int .i64 (span (isDig hex) s.data.toList))∧w=w':=by
 have hsp:=span_le (isDig hex) s.data.toList;rw [size_data] at hsp;go_enter Tryz.func70,Tryz.ntmps70
 go_wp2
 go_loop [5] (fun i=>∃ k:Nat,k≤s.size∧i = .int .i64 k∧Hid (span (isDig hex) s.data.toList=k+span (isDig hex) (s.data.toList.drop k))) (fun i=>s.size - (intOf i).toNat)
 case atStart=>exact ⟨0,Nat.zero_le _,rfl,by show _=_; simp⟩
 case round =>
  obtain ⟨k,hk,rfl,H⟩:=hrel;by_cases hlt:k<s.size
  · have HD:=Lib.hid (drop_byte s k hlt)
    cases hp:isDig hex s[k]
    all_goals
     have HP:=Lib.hid hp;clear hp;go_wp2_with (go_at_call 146; refine (isDig_any _ hex b _ hc).mono ?_; rintro e w' ⟨rfl,rfl⟩; rw [HP.out])
    · go_ret
      exact ⟨ret_int (by rw [H.out,HD.out]; simp [span,HP.out]),rfl⟩
    · go_round
      case rel=>exact ⟨k+1,by omega,by go_num,by show _=_; rw [H.out,HD.out]; simp only [span,HP.out,if_true]; omega⟩
      case measure=>simp [intOf]; omega
  · go_wp2
    go_ret
    exact ⟨ret_int (by rw [H.out,List.drop_of_length_le (by rw [size_data]; omega)]; simp [span]),rfl⟩
def refTuple:RefR→Value
 | .ok t n=>.tuple #[.string (bs t),.int .i64 n,.int .i64 0]
 | .bad e=>.tuple #[.string (bs []),.int .i64 0,.int .i64 e]
theorem numV_snoc (hex:Bool) (l:Bs) (c:UInt8):numV hex (l ++ [c])=numV hex l*baseOf hex+digitV c hex:=by
 unfold numV; rw [List.foldl_append]; rfl
theorem numV_bd (hex:Bool) (l:Bs) (h : ∀ c ∈ l,isDig hex c=true):0≤numV hex l∧numV hex l<16 ^ l.length:=by
 induction l using snoc_ind with
 | h0=>simp [numV]
 | h1 l c ih =>
  obtain ⟨h1,h2⟩:=ih fun d hd=>h d (by simp [hd]);have h3:=h c (by simp);have h4:=digitV_le c hex;simp only [isDig,decide_eq_true_eq] at h3;rw [numV_snoc,List.length_append,List.length_singleton,Int.pow_succ];generalize (16:Int) ^ l.length=q at *;cases hex <;> simp only [baseOf,if_true,Bool.false_eq_true,if_false] <;> omega
theorem numV_small (hex:Bool) (l:Bs) (h : ∀ c ∈ l,isDig hex c=true) (hl:l.length≤8):0≤numV hex l∧numV hex l<4294967296:=by
 obtain ⟨h1,h2⟩:=numV_bd hex l h
 have h3:(16:Int) ^ l.length≤4294967296:=by
  generalize l.length=n at hl;match n,hl with
  | 0,_=>decide
  | 1,_=>decide
  | 2,_=>decide
  | 3,_=>decide
  | 4,_=>decide
  | 5,_=>decide
  | 6,_=>decide
  | 7,_=>decide
  | 8,_=>decide
 omega
def refWords:List (Bs × UInt8):=[(wLt,60),(wGt,62),(wAmp,38),(wQuot,34),(wApos,39)]
def refW:List (Bs × UInt8)→Bs→Option RefR
 | [],_=>none
 | (w,t)::ws,s=>if (38::(w ++ [59])).isPrefixOf s then some (.ok [t] (w.length+2)) else if s.isPrefixOf (38::(w ++ [59])) then some (.bad 13) else refW ws s
def refN (hex:Bool) (ahead:Nat) (s:Bs):RefR :=
 if 8<min 9 (span (isDig hex) s) then .bad 12
 else if min 9 (span (isDig hex) s)=s.length then .bad 13
 else if s[min 9 (span (isDig hex) s)]?≠some 59∨min 9 (span (isDig hex) s)=0∨okLetter (numV hex (s.take (min 9 (span (isDig hex) s))))=false then .bad 12
 else .ok (letterB (numV hex (s.take (min 9 (span (isDig hex) s))))) (ahead+min 9 (span (isDig hex) s)+1)
def refDoc (s:Bs):RefR :=
 match refW refWords s with
 | some r=>r
 | none =>
  if s=[38,35]∨s=[38,35,120] then .bad 13
  else if !([38,35]:Bs).isPrefixOf s then .bad 12
  else if ([38,35,120]:Bs).isPrefixOf s then refN true 3 (s.drop 3) else refN false 2 (s.drop 2)
theorem refN_eq (hex:Bool) (ahead:Nat) (s:Bs):refN hex ahead s=numRef hex ahead s:=by
 unfold refN numRef;by_cases h:8<span (isDig hex) s
 · rw [if_pos (by omega),if_pos h]
 · rw [show min 9 (span (isDig hex) s)=span (isDig hex) s by omega,if_neg h,if_neg h]
   by_cases h2:span (isDig hex) s=s.length
   · rw [if_pos h2,if_pos h2]
   · rw [if_neg h2,if_neg h2]
     by_cases h3:span (isDig hex) s=0∨s[span (isDig hex) s]?≠some 59
     · rw [if_pos h3,if_pos (by rcases h3 with h | h; exact .inr (.inl h); exact .inl h)]
     · rw [if_neg h3]
       cases h4:okLetter (numV hex (s.take (span (isDig hex) s)))
       · simp
       · rw [if_neg (by simp only [not_or] at h3; simp [h3])]; simp
theorem pre_word {w r:Bs} (hw : ∀ c ∈ w,cLower c=true):(w ++ [59]).isPrefixOf r=(decide (r.take (span cLower r)=w) && decide (r[span cLower r]? = some 59)):=by
 have h59:cLower 59=false:=by decide
 induction w generalizing r with
 | nil =>
  cases r with
  | nil=>rfl
  | cons c r =>
   by_cases hc:cLower c
   · have:c≠59:=fun e=>by rw [e,h59] at hc; cases hc
     simp [span,hc,List.isPrefixOf,Ne.symm this]
   · by_cases e:c=59
     · subst e; simp [span,h59,List.isPrefixOf]
     · simp [span,hc,List.isPrefixOf,e,Ne.symm e]
 | cons x w ih =>
  have hx:=hw x (by simp);cases r with
  | nil=>simp [span]
  | cons c r =>
   simp only [List.cons_append,List.isPrefixOf];rw [ih fun d hd=>hw d (by simp [hd])];by_cases e:x=c
   · subst e; simp [span,hx]
   · have e':(x == c)=false:=by simpa using e
     rw [e',Bool.false_and];by_cases hc:cLower c
     · simp [span,hc,Ne.symm e]
     · simp [span,hc]
theorem pre_of_word {w r:Bs} (hw : ∀ c ∈ w,cLower c=true):r.isPrefixOf (w ++ [59])=((decide (span cLower r=r.length) && r.isPrefixOf w) || decide (r=w ++ [59])):=by
 have h59:cLower 59=false:=by decide
 induction w generalizing r with
 | nil =>
  cases r with
  | nil=>simp [span]
  | cons c r =>
   by_cases hc:cLower c
   · have:c≠59:=fun e=>by rw [e,h59] at hc; cases hc
     simp [List.isPrefixOf,this]
   · simp [List.isPrefixOf]
     by_cases e:c=59
     · subst e; cases r <;> simp
     · simp [e]
 | cons x w ih =>
  have hx:=hw x (by simp);cases r with
  | nil=>simp [span]
  | cons c r =>
   simp only [List.cons_append,List.isPrefixOf];rw [ih fun d hd=>hw d (by simp [hd])];by_cases e:c=x
   · subst e; simp [span,hx]
   · have e':(c == x)=false:=by simpa using e
     simp [e']
     exact fun h=>absurd h e
theorem lower_words : ∀ p ∈ refWords,∀ c ∈ p.1,cLower c=true:=by decide
theorem refW_all (r:Bs) (hr:r.head?≠some 35):(match refW refWords (38::r) with
    | some x=>x
    | none=>.bad 12)=refSpec (38::r):=by
 have key : ∀ ws:List (Bs × UInt8),(∀ p ∈ ws,∀ c ∈ p.1,cLower c=true)→refW ws (38::r) =
     (if span cLower r=r.length then (if ws.any (fun p=>r.isPrefixOf p.1) then some (.bad 13) else none)
      else (match ws.find? (fun p=>decide (r.take (span cLower r)=p.1) && decide (r[span cLower r]? = some 59)) with
       | some p=>some (.ok [p.2] (p.1.length+2))
       | none=>none)):=by
  intro ws;induction ws with
  | nil=>intro _; simp [refW]
  | cons p ws ih =>
   intro hp;obtain ⟨w,t⟩:=p;have hw:=hp (w,t) (by simp);simp only [refW,List.isPrefixOf,beq_self_eq_true,Bool.true_and];rw [pre_word hw,pre_of_word hw,ih fun q hq=>hp q (by simp [hq])];by_cases hl:span cLower r=r.length
   · rw [if_pos hl]
     have h1:r[span cLower r]? = none:=by rw [hl]; simp
     have h2:r≠w ++ [59]:=by
      rintro rfl;rw [hl] at h1
      have:cLower 59=true:=by
       obtain ⟨c,hc1,hc2⟩:=span_lt (p:=cLower) (l:=w ++ [59]) (i:=w.length) (by rw [hl]; simp);simp at hc1; rw [hc1]; exact hc2
      revert this; decide
     have h3:(decide (r.take (span cLower r)=w) && decide (r[span cLower r]? = some 59))=false:=by rw [h1]; simp
     rw [h3];simp only [hl,decide_true,Bool.true_and,h2,decide_false,Bool.or_false,List.any_cons,Bool.false_eq_true,if_false,if_true];by_cases h4:r.isPrefixOf w=true
     · simp [h4]
     · have h5:r.isPrefixOf w=false:=Bool.eq_false_iff.2 h4
       simp only [h5,Bool.false_or,Bool.false_eq_true,if_false]
   · rw [if_neg hl]
     simp only [hl,decide_false,Bool.false_and,Bool.false_or,List.find?_cons];cases hd:decide (r.take (span cLower r)=w) && decide (r[span cLower r]? = some 59)
     · have h2:r≠w ++ [59]:=by
        rintro rfl
        have hs:span cLower (w ++ [59])=w.length:=span_eq (fun i c hi hc=>by
         rw [List.getElem?_append_left hi] at hc
         exact hw c (List.mem_of_getElem? hc)) (fun c hc=>by simp at hc; subst hc; decide) (by simp)
        rw [hs] at hd;simp at hd
       simp [h2]
     · simp
 rw [key _ lower_words]
 have hsp:refSpec (38::r)=(if span cLower r=r.length then
       if r.isPrefixOf wLt || r.isPrefixOf wGt || r.isPrefixOf wAmp || r.isPrefixOf wQuot || r.isPrefixOf wApos then .bad 13 else .bad 12
     else match named (r.take (span cLower r)) with
      | some t=>if r[span cLower r]? = some 59 then .ok [t] (span cLower r+2) else .bad 12
      | none=>.bad 12):=by
  unfold refSpec;simp only [ne_eq,not_true_eq_false,if_false];split
  · simp at hr
  · rfl
 rw [hsp];by_cases hl:span cLower r=r.length
 · rw [if_pos hl,if_pos hl]
   simp only [refWords,List.any_cons,List.any_nil,Bool.or_false,Bool.or_assoc];split <;> rename_i h
   · split at h
     · cases h; rw [if_pos ‹_›]
     · cases h
   · split at h
     · cases h
     · rw [if_neg ‹_›]
 · rw [if_neg hl,if_neg hl]
   have hlen:(r.take (span cLower r)).length=span cLower r:=by rw [List.length_take]; have:=span_le cLower r; omega
   generalize ht:r.take (span cLower r)=u at *;rw [← hlen];by_cases h59:r[u.length]? = some 59
   · simp only [h59,decide_true,Bool.and_true,if_true]
     simp only [refWords,List.find?_cons,List.find?_nil,named];by_cases e1:u=wLt
     · subst e1; simp
     · by_cases e2:u=wGt
       · subst e2; simp [e1]
       · by_cases e3:u=wAmp
         · subst e3; simp [e1,e2]
         · by_cases e4:u=wQuot
           · subst e4; simp [e1,e2,e3]
           · by_cases e5:u=wApos
             · subst e5; simp [e1,e2,e3,e4]
             · simp [e1,e2,e3,e4,e5]
   · simp only [h59,decide_false,Bool.and_false,if_false]
     simp only [refWords,List.find?_cons,List.find?_nil];cases named u <;> rfl
theorem refDoc_eq (s:Bs):refDoc s=refSpec s:=by
 cases s with
 | nil=>rfl
 | cons c r =>
  by_cases hc:c=38
  · subst hc
    by_cases hr:r.head? = some 35
    · cases r with
      | nil=>cases hr
      | cons x r =>
       simp only [List.head?_cons,Option.some.injEq] at hr;subst hr;have hw:refW refWords (38::35::r)=none:=by simp [refW,refWords,wLt,wGt,wAmp,wQuot,wApos,List.isPrefixOf]
       unfold refDoc;rw [hw];simp only;cases r with
       | nil=>rw [if_pos (.inl rfl)]; simp [refSpec,numRef,span]
       | cons y r =>
        by_cases hy:y=120
        · subst hy
          cases r with
          | nil=>rw [if_pos (.inr rfl)]; simp [refSpec,numRef,span]
          | cons z r =>
           rw [if_neg (by simp),if_neg (by simp [List.isPrefixOf]),if_pos (by simp [List.isPrefixOf]),refN_eq];simp [refSpec]
        · rw [if_neg (by simp [hy]),if_neg (by simp [List.isPrefixOf]),if_neg (by simp [List.isPrefixOf,Ne.symm hy]),refN_eq]
          simp [refSpec,hy]
    · rw [← refW_all r hr]
      unfold refDoc;cases refW refWords (38::r) with
      | some x=>rfl
      | none =>
       simp only
       have h1:([38,35]:Bs).isPrefixOf (38::r)=false:=by
        cases r with
        | nil=>rfl
        | cons x r=>simp only [List.head?_cons,Option.some.injEq] at hr; simp [List.isPrefixOf,Ne.symm hr]
       rw [if_neg (by rintro (h | h) <;> (simp at h; rw [h] at hr; simp at hr)),h1]; rfl
  · have hw:refW refWords (c::r)=none:=by simp [refW,refWords,List.isPrefixOf,hc,Ne.symm hc]
    unfold refDoc;rw [hw];simp only;rw [if_neg (by simp [hc]),show ([38,35]:Bs).isPrefixOf (c::r)=false by simp [List.isPrefixOf,Ne.symm hc]];simp [refSpec,hc]
theorem refSpec_size {s t:Bs} {n:Nat} (h:refSpec s = .ok t n):1≤n∧n≤s.length:=by
 have hn : ∀ hex a d,numRef hex a d = .ok t n→n≤a+d.length∧a+1≤n:=by
  intro hex a d h;unfold numRef at h;have:=span_le (isDig hex) d
  by_cases h1:8<span (isDig hex) d
  · rw [if_pos h1] at h; cases h
  · rw [if_neg h1] at h
    by_cases h2:span (isDig hex) d=d.length
    · rw [if_pos h2] at h; cases h
    · rw [if_neg h2] at h
      by_cases h3:span (isDig hex) d=0∨d[span (isDig hex) d]?≠some 59
      · rw [if_pos h3] at h; cases h
      · rw [if_neg h3] at h
        split at h
        · cases h; omega
        · cases h
 cases s with
 | nil=>cases h
 | cons c r =>
  simp only [refSpec] at h;by_cases hc:c=38
  · rw [if_neg (by simp [hc])] at h
    split at h
    · split at h
      · have:=hn _ _ _ h; simp only [List.length_cons]; omega
      · have:=hn _ _ _ h; simp only [List.length_cons]; omega
    · by_cases hl:span cLower r=r.length
      · rw [if_pos hl] at h
        split at h <;> cases h
      · rw [if_neg hl] at h
        have:=span_le cLower r
        split at h
        · split at h
          · cases h; simp only [List.length_cons]; omega
          · cases h
        · cases h
  · rw [if_pos hc] at h; cases h
theorem hasPrefix_any (s p:S) (w:World):Calls Tryz.prog 113 #[.string s,.string p] w fun e w'=>e = .returned (.bool (p.data.toList.isPrefixOf s.data.toList))∧w=w' :=
 (Tryz.strings_HasPrefix s p w).mono fun _ _ ⟨h1,h2⟩=>⟨h1,h2.symm⟩
theorem index_any (s p:S) (m:Int) (w:World) (hs:s.size<4294967281) (hm:w.cell? ⟨0,0,none⟩=some (.int .i64 m)):Calls Tryz.prog 92 #[.string s,.string p] w fun e w'=>e = .returned (.int .i64 (Lib.index s.data.toList p.data.toList))∧w=w' :=
 (Tryz.strings_Index s p m w hs hm).mono fun _ _ ⟨h1,h2⟩=>⟨h1,h2.symm⟩
theorem lastIndexByte_any (s:S) (w:World) (hs:s.size<4611686018427387904):Calls Tryz.prog 54 #[.string s,.int .u8 10] w fun e w'=>e = .returned (.int .i64 ((s.size:Int) - (lineCol s.data.toList).2))∧w=w' :=
 (Tryz.strings_LastIndexByte s 10 hs w).mono fun _ _ ⟨h1,h2⟩=>⟨by rw [h1]; congr 2; have:=lineCol_col s.data.toList; rw [data_bs,size_data] at this; exact this,h2.symm⟩
theorem count_any (s:S) (w:World):Calls Tryz.prog 59 #[.string s,.string ⟨#[10]⟩] w fun e w'=>e = .returned (.int .i64 ((lineCol s.data.toList).1 - 1:Int))∧w=w' :=
 (Tryz.strings_Count_one s 10 w).mono fun _ _ ⟨h1,h2⟩=>⟨by rw [h1,lineCol_line]; unfold Lib.countByte; congr 2; omega,h2.symm⟩
theorem lastIndex_any (s:S) (w:World) (hs:s.size<4611686018427387904):Calls Tryz.prog 60 #[.string s,.string ⟨#[10]⟩] w fun e w'=>e = .returned (.int .i64 ((s.size:Int) - (lineCol s.data.toList).2))∧w=w' :=
 (Tryz.strings_LastIndex s ⟨#[10]⟩ hs w).mono fun _ _ ⟨h1,h2⟩=>⟨by rw [h1]; congr 2; have:=lastIndex_one s.data.toList; rw [size_data] at this; exact this,h2.symm⟩
def numSpec:Bs→RefR
 | 120::r=>numRef true 3 r
 | l=>numRef false 2 l
set_option maxRecDepth 100000 in
set_option maxHeartbeats 4000000 in
theorem number_any (s:S) (w:World) (hs:s.size≤1000000) :
    Calls Tryz.prog 133 #[.string s,.int .i64 2] w fun e w'=>e = .returned (refTuple (numSpec s.data.toList))∧Below w.heap.size w w':=by
 obtain ⟨u,l,hex,a,hpos,hu,hul,hspec,hx,ha,hsl⟩ : ∃ (u:S) (l:Bs) (hex:Bool) (a:Nat),(hex=true→1≤s.size)∧u.data.toList=l∧u.size≤1000000∧numSpec s.data.toList=numRef hex a l∧([120]:Bs).isPrefixOf s.data.toList=hex∧a=(if hex then 3 else 2)∧u=(if hex then s.extract 1 s.size else s):=by
  by_cases h:([120]:Bs).isPrefixOf s.data.toList=true
  · obtain ⟨r,hr⟩:=List.isPrefixOf_iff_prefix.1 h
    refine ⟨s.extract 1 s.size,r,true,3,fun _=>by rw [← size_data,← hr]; simp,?_,?_,by rw [← hr]; rfl,h,rfl,rfl⟩
    · rw [Lib.extract_to_end,← hr]; rfl
    · rw [← size_data,Lib.extract_to_end,List.length_drop,size_data]; omega
  · have h':([120]:Bs).isPrefixOf s.data.toList=false:=Bool.eq_false_iff.2 h
    refine ⟨s,s.data.toList,false,2,by simp,rfl,hs,?_,h',rfl,rfl⟩
    unfold numSpec;split
    · rename_i r hr; rw [hr] at h'; simp at h'
    · rfl
 have HS:Hid (numSpec s.data.toList=numRef hex a l):=hspec;have HX:Hid ((⟨#[120]⟩:ByteArray).data.toList.isPrefixOf s.data.toList=hex):=hx;have HU:=Lib.hid hu;clear hspec hx hu;have hN:=span_le (isDig hex) l;have hll:l.length=u.size:=by rw [← HU.out,size_data]
 have hN':span (isDig hex) l≤u.size:=by omega
 have HSP : ∀ b w,w.cell? ⟨b,0,none⟩=some (.int .i64 (baseOf hex))→Calls Tryz.prog 70 #[.string u,.func (.func 146) #[] #[.pointer (some ⟨b,0,none⟩)]] w fun e w'=>e = .returned (.int .i64 (span (isDig hex) l))∧w=w':=by
  intro b w hc;have:=spanDig_any u w hex b hc (by omega)
  rw [HU.out] at this; exact this
 have HDG : ∀ i,i<span (isDig hex) l → ∃ c,l[i]? = some c∧isDig hex c=true:=fun i hi=>span_lt hi;have HEND:Hid (∀ c,l[span (isDig hex) l]? = some c→isDig hex c=false):=fun c hc=>span_end hc;generalize hNN:span (isDig hex) l=N at *;have HNN:=Lib.hid hNN;have HD2:=Lib.hid HDG;clear hNN hN HDG HEND;cases hex
 · simp only [Bool.false_eq_true,if_false] at ha hsl
   subst ha;subst hsl;try have hpos1:1≤s.size:=hpos rfl
   clear hpos;simp only [baseOf,Bool.false_eq_true,if_false] at HSP;have HSP':=Lib.hid HSP;clear HSP;go_enter Tryz.func133,Tryz.ntmps133
   go_wp2_with (go_at_call 113; refine (hasPrefix_any _ _ _).mono ?_; rintro e w' ⟨rfl,rfl⟩; rw [HX.out])
   refine (HSP'.out _ _ (by simp [go_sem])).mono ?_
   rintro e w1 ⟨rfl,rfl⟩;clear HSP' HX;try generalize s.extract 1 s.size=u at *
   by_cases h8:8<N
   · go_wp2
     go_ret3
     exact ⟨by rw [HS.out]; unfold numRef; rw [HNN.out,if_pos h8]; rfl,(Below.refl _ _).alloc (Nat.le_refl _) _⟩
   · by_cases hend:N=u.size
     · have e1:((N:Int) == (u.size:Int))=true:=beq_iff_eq.2 (by omega)
       have HE:=Lib.hid hend;clear hend;go_wp2
       go_ret3
       exact ⟨by rw [HS.out]; unfold numRef; rw [HNN.out,if_neg h8,if_pos (by rw [hll,HE.out])]; rfl,(Below.refl _ _).alloc (Nat.le_refl _) _⟩
     · have hlt:N<u.size:=by omega
       have e1:((N:Int) == (u.size:Int))=false:=beq_eq_false_iff_ne.2 (by omega);have hne : ¬ N=l.length:=by rw [hll]; exact hend
       clear hend
       have hb:l[N]? = some u[N]:=by
        have:=congrArg (·[0]?) (drop_byte u N hlt)
        rw [HU.out] at this;simpa using this
       have HB:=Lib.hid hb;clear hb;by_cases h0:N=0
       · have e0:((N:Int) == 0)=true:=beq_iff_eq.2 (by omega)
         have HE:=Lib.hid h0;clear h0;go_wp2
         go_ret3
         exact ⟨by rw [HS.out]; unfold numRef; rw [HNN.out,if_neg h8,if_neg hne,if_pos (.inl HE.out)]; rfl,(Below.refl _ _).alloc (Nat.le_refl _) _⟩
       · have e0:((N:Int) == 0)=false:=beq_eq_false_iff_ne.2 (by omega)
         by_cases h59:u[N]=59
         rotate_left
         · have e2:(((u[N].toNat:Nat):Int) != 59)=true:=by
            rw [bne_iff_ne]; intro e; exact h59 (UInt8.toNat_inj.1 (by simpa using (by omega:u[N].toNat=59)))
           have HE:Hid (l[N]?≠some 59):=by rw [HB.out]; show ¬ _; simpa using h59
           clear h59 HB;go_wp2
           go_ret3
           exact ⟨by rw [HS.out]; unfold numRef; rw [HNN.out,if_neg h8,if_neg hne,if_pos (.inr HE.out)]; rfl,(Below.refl _ _).alloc (Nat.le_refl _) _⟩
         · have e2:(((u[N].toNat:Nat):Int) != 59)=false:=by rw [h59]; decide
           have HE:Hid (l[N]? = some 59):=by rw [HB.out,h59]; rfl
           clear h59 HB;go_wp2
           go_loopw [9,40] (fun q i wr=>∃ j:Nat,j≤N∧i = .int .i64 j∧q = .int .i64 (numV false (l.take j))∧Below w.heap.size w wr∧wr.cell? ⟨w.heap.size,0,none⟩=some (.int .i64 10)) (fun _ i _=>N - (intOf i).toNat)
           case atStart=>exact ⟨0,Nat.zero_le _,rfl,by simp [numV],(Below.refl _ _).alloc (Nat.le_refl _) _,by simp [go_sem]⟩
           case round =>
            obtain ⟨j,hj,rfl,rfl,hb,hcell⟩:=hrel
            have hdl : ∀ c ∈ l.take j,isDig false c=true:=fun c hc=>by
             obtain ⟨i,hi,rfl⟩:=List.mem_iff_getElem.1 hc;rw [List.length_take] at hi;obtain ⟨c,h1,h2⟩:=HD2.out i (by omega);rw [List.getElem_take];obtain ⟨h3,h4⟩:=List.getElem?_eq_some_iff.1 h1;rw [h4]; exact h2
            obtain ⟨b1,b2⟩:=numV_small false (l.take j) hdl (by rw [List.length_take]; omega);by_cases hjN:j<N
            · have hju:j<u.size:=by omega
              have hcu:l[j]? = some u[j]:=by
               have:=congrArg (·[0]?) (drop_byte u j hju)
               rw [HU.out] at this;simpa using this
              have hd0:isDig false u[j]=true:=by
               obtain ⟨c,h1,h2⟩:=HD2.out j hjN;rw [hcu] at h1; cases h1; exact h2
              have v1:0≤digitV u[j] false:=by simpa [isDig] using hd0
              have v2:=(digitV_le u[j] false).2
              have HSN:Hid (numV false (l.take (j+1))=numV false (l.take j)*10+digitV u[j] false):=by
               show _=_
               have:l.take (j+1)=l.take j ++ [u[j]]:=by rw [List.take_add_one,hcu]; rfl
               rw [this,numV_snoc]; rfl
              have HDI:=Lib.hid (fun w=>digit_any u[j] false w);simp only [baseOf,Bool.false_eq_true,if_false] at HDI;clear hdl hcu hd0;generalize numV false (l.take j)=K at *;generalize digitV u[j] false=V at *;have w1:=IntWalk.i64_in (K*10) (by omega);have w2:=IntWalk.i64_in (K*10+V) (by omega);go_wp2
              go_quiet ((go_at_call 147; exact quietS (HDI.out _)))
              clear w1 w2;go_wp2
              go_roundw
              case rel=>exact ⟨j+1,by omega,by go_num,by rw [HSN.out],belowN hb _,hcell⟩
              case measure=>simp [intOf]; omega
            · obtain rfl:j=N:=by omega
              have hok0:span (isDig false) l=j:=HNN.out;cases hok:okLetter (numV false (l.take j))
              · have HO:=Lib.hid hok
                have HLT:=Lib.hid (fun w=>letter_no _ w hok);clear hok hdl hok0;generalize hK:numV false (l.take j)=K at *;have HK:=Lib.hid hK;clear hK;go_wp2_with (go_at_call 148; refine (HLT.out _).mono ?_; rintro e w2 ⟨rfl,hb2⟩)
                go_ret3
                refine ⟨?_,hb.trans (hb2.mono hb.size)⟩
                rw [HS.out]; unfold numRef;rw [HNN.out,if_neg h8,if_neg hne,if_neg (by rw [HE.out]; simp [h0]),HK.out,HO.out]; rfl
              · have HO:=Lib.hid hok
                have HLT:=Lib.hid (fun w=>letter_ok _ w hok);clear hok hdl hok0;generalize hK:numV false (l.take j)=K at *;have HK:=Lib.hid hK;clear hK;go_wp2_with (go_at_call 148; refine (HLT.out _).mono ?_; rintro e w2 ⟨rfl,hb2⟩)
                go_ret3
                refine ⟨?_,hb.trans (hb2.mono hb.size)⟩
                rw [HS.out]; unfold numRef;rw [HNN.out,if_neg h8,if_neg hne,if_neg (by rw [HE.out]; simp [h0]),HK.out,HO.out];simp only [if_true,refTuple];rw [show ((2+j+1:Nat):Int)=2+(j:Int)+1 by omega]; rfl
 · simp only [if_true] at ha hsl
   subst ha;subst hsl;try have hpos1:1≤s.size:=hpos rfl
   clear hpos;simp only [baseOf,if_true] at HSP;have HSP':=Lib.hid HSP;clear HSP;go_enter Tryz.func133,Tryz.ntmps133
   go_wp2_with (go_at_call 113; refine (hasPrefix_any _ _ _).mono ?_; rintro e w' ⟨rfl,rfl⟩; rw [HX.out])
   refine (HSP'.out _ _ (by simp [go_sem])).mono ?_
   rintro e w1 ⟨rfl,rfl⟩;clear HSP' HX;try generalize s.extract 1 s.size=u at *
   by_cases h8:8<N
   · go_wp2
     go_ret3
     exact ⟨by rw [HS.out]; unfold numRef; rw [HNN.out,if_pos h8]; rfl,(Below.refl _ _).alloc (Nat.le_refl _) _⟩
   · by_cases hend:N=u.size
     · have e1:((N:Int) == (u.size:Int))=true:=beq_iff_eq.2 (by omega)
       have HE:=Lib.hid hend;clear hend;go_wp2
       go_ret3
       exact ⟨by rw [HS.out]; unfold numRef; rw [HNN.out,if_neg h8,if_pos (by rw [hll,HE.out])]; rfl,(Below.refl _ _).alloc (Nat.le_refl _) _⟩
     · have hlt:N<u.size:=by omega
       have e1:((N:Int) == (u.size:Int))=false:=beq_eq_false_iff_ne.2 (by omega);have hne : ¬ N=l.length:=by rw [hll]; exact hend
       clear hend
       have hb:l[N]? = some u[N]:=by
        have:=congrArg (·[0]?) (drop_byte u N hlt)
        rw [HU.out] at this;simpa using this
       have HB:=Lib.hid hb;clear hb;by_cases h0:N=0
       · have e0:((N:Int) == 0)=true:=beq_iff_eq.2 (by omega)
         have HE:=Lib.hid h0;clear h0;go_wp2
         go_ret3
         exact ⟨by rw [HS.out]; unfold numRef; rw [HNN.out,if_neg h8,if_neg hne,if_pos (.inl HE.out)]; rfl,(Below.refl _ _).alloc (Nat.le_refl _) _⟩
       · have e0:((N:Int) == 0)=false:=beq_eq_false_iff_ne.2 (by omega)
         by_cases h59:u[N]=59
         rotate_left
         · have e2:(((u[N].toNat:Nat):Int) != 59)=true:=by
            rw [bne_iff_ne]; intro e; exact h59 (UInt8.toNat_inj.1 (by simpa using (by omega:u[N].toNat=59)))
           have HE:Hid (l[N]?≠some 59):=by rw [HB.out]; show ¬ _; simpa using h59
           clear h59 HB;go_wp2
           go_ret3
           exact ⟨by rw [HS.out]; unfold numRef; rw [HNN.out,if_neg h8,if_neg hne,if_pos (.inr HE.out)]; rfl,(Below.refl _ _).alloc (Nat.le_refl _) _⟩
         · have e2:(((u[N].toNat:Nat):Int) != 59)=false:=by rw [h59]; decide
           have HE:Hid (l[N]? = some 59):=by rw [HB.out,h59]; rfl
           clear h59 HB;go_wp2
           go_loopw [9,40] (fun q i wr=>∃ j:Nat,j≤N∧i = .int .i64 j∧q = .int .i64 (numV true (l.take j))∧Below w.heap.size w wr∧wr.cell? ⟨w.heap.size,0,none⟩=some (.int .i64 16)) (fun _ i _=>N - (intOf i).toNat)
           case atStart=>exact ⟨0,Nat.zero_le _,rfl,by simp [numV],(Below.refl _ _).alloc (Nat.le_refl _) _,by simp [go_sem]⟩
           case round =>
            obtain ⟨j,hj,rfl,rfl,hb,hcell⟩:=hrel
            have hdl : ∀ c ∈ l.take j,isDig true c=true:=fun c hc=>by
             obtain ⟨i,hi,rfl⟩:=List.mem_iff_getElem.1 hc;rw [List.length_take] at hi;obtain ⟨c,h1,h2⟩:=HD2.out i (by omega);rw [List.getElem_take];obtain ⟨h3,h4⟩:=List.getElem?_eq_some_iff.1 h1;rw [h4]; exact h2
            obtain ⟨b1,b2⟩:=numV_small true (l.take j) hdl (by rw [List.length_take]; omega);by_cases hjN:j<N
            · have hju:j<u.size:=by omega
              have hcu:l[j]? = some u[j]:=by
               have:=congrArg (·[0]?) (drop_byte u j hju)
               rw [HU.out] at this;simpa using this
              have hd0:isDig true u[j]=true:=by
               obtain ⟨c,h1,h2⟩:=HD2.out j hjN;rw [hcu] at h1; cases h1; exact h2
              have v1:0≤digitV u[j] true:=by simpa [isDig] using hd0
              have v2:=(digitV_le u[j] true).2
              have HSN:Hid (numV true (l.take (j+1))=numV true (l.take j)*16+digitV u[j] true):=by
               show _=_
               have:l.take (j+1)=l.take j ++ [u[j]]:=by rw [List.take_add_one,hcu]; rfl
               rw [this,numV_snoc]; rfl
              have HDI:=Lib.hid (fun w=>digit_any u[j] true w);simp only [baseOf,if_true] at HDI;clear hdl hcu hd0;generalize numV true (l.take j)=K at *;generalize digitV u[j] true=V at *;have w1:=IntWalk.i64_in (K*16) (by omega);have w2:=IntWalk.i64_in (K*16+V) (by omega);go_wp2
              go_quiet ((go_at_call 147; exact quietS (HDI.out _)))
              clear w1 w2;go_wp2
              go_roundw
              case rel=>exact ⟨j+1,by omega,by go_num,by rw [HSN.out],belowN hb _,hcell⟩
              case measure=>simp [intOf]; omega
            · obtain rfl:j=N:=by omega
              have hok0:span (isDig true) l=j:=HNN.out;cases hok:okLetter (numV true (l.take j))
              · have HO:=Lib.hid hok
                have HLT:=Lib.hid (fun w=>letter_no _ w hok);clear hok hdl hok0;generalize hK:numV true (l.take j)=K at *;have HK:=Lib.hid hK;clear hK;go_wp2_with (go_at_call 148; refine (HLT.out _).mono ?_; rintro e w2 ⟨rfl,hb2⟩)
                go_ret3
                refine ⟨?_,hb.trans (hb2.mono hb.size)⟩
                rw [HS.out]; unfold numRef;rw [HNN.out,if_neg h8,if_neg hne,if_neg (by rw [HE.out]; simp [h0]),HK.out,HO.out]; rfl
              · have HO:=Lib.hid hok
                have HLT:=Lib.hid (fun w=>letter_ok _ w hok);clear hok hdl hok0;generalize hK:numV true (l.take j)=K at *;have HK:=Lib.hid hK;clear hK;go_wp2_with (go_at_call 148; refine (HLT.out _).mono ?_; rintro e w2 ⟨rfl,hb2⟩)
                go_ret3
                refine ⟨?_,hb.trans (hb2.mono hb.size)⟩
                rw [HS.out]; unfold numRef;rw [HNN.out,if_neg h8,if_neg hne,if_neg (by rw [HE.out]; simp [h0]),HK.out,HO.out];simp only [if_true,refTuple];rw [show ((3+j+1:Nat):Int)=3+(j:Int)+1 by omega]; rfl
theorem named_none (s:S) (w:World) (h:named s.data.toList=none):Calls Tryz.prog 135 #[.string s] w fun e w'=>e = .returned (.string ⟨#[]⟩)∧w=w':=by
 refine (named_any s w).mono fun e w' ⟨h1,h2⟩=>⟨?_,h2⟩
 rw [h1]; unfold namedB; rw [h]; rfl
theorem named_some (s:S) (c:UInt8) (w:World) (h:named s.data.toList=some c):Calls Tryz.prog 135 #[.string s] w fun e w'=>e = .returned (.string ⟨#[c]⟩)∧w=w':=by
 refine (named_any s w).mono fun e w' ⟨h1,h2⟩=>⟨?_,h2⟩
 rw [h1]; unfold namedB; rw [h]; rfl
def refTexts:List S:=[⟨#[108,116]⟩,⟨#[103,116]⟩,⟨#[97,109,112]⟩,⟨#[113,117,111,116]⟩,⟨#[97,112,111,115]⟩]
def refAny (r:Bs):List S→Bool
 | []=>false
 | t::l=>r.isPrefixOf t.data.toList || refAny r l
theorem refAny_eq (r:Bs):refAny r refTexts=(r.isPrefixOf wLt || r.isPrefixOf wGt || r.isPrefixOf wAmp || r.isPrefixOf wQuot || r.isPrefixOf wApos):=by
 simp only [refAny,refTexts,Bool.or_false,Bool.or_assoc]; rfl
theorem ref_num (r:Bs):refSpec (38::35::r)=numSpec r:=by
 simp only [refSpec];rw [if_neg (by simp)];cases r with
 | nil=>rfl
 | cons x r =>
  by_cases hx:x=120
  · subst hx; rfl
  · unfold numSpec
    simp [hx]
theorem ref_word (r:Bs) (h:r.head?≠some 35):refSpec (38::r)=(if span cLower r=r.length then
        if refAny r refTexts then .bad 13 else .bad 12
      else match named (r.take (span cLower r)) with
       | some t=>if r[span cLower r]? = some 59 then .ok [t] (span cLower r+2) else .bad 12
       | none=>.bad 12):=by
 rw [refAny_eq];simp only [refSpec];rw [if_neg (by simp)];split
 · simp at h
 · rfl
set_option maxRecDepth 100000 in
set_option maxHeartbeats 4000000 in
theorem ref_any (s:S) (w:World) (hs:s.size≤1000000) :
    Calls Tryz.prog 119 #[.string s] w fun e w'=>e = .returned (refTuple (refSpec s.data.toList))∧Below w.heap.size w w':=by
 have hE0:=empty_data s;by_cases h0:s.size=0
 · have hE:s.toList.isEmpty=true:=by rw [hE0]; simpa using h0
   clear hE0;have hd:s.data.toList=[]:=List.eq_nil_of_length_eq_zero (by rw [size_data,h0]);rw [hd];clear hd h0;go_enter Tryz.func119,Tryz.ntmps119
   go_wp2
   go_ret3
   exact ⟨rfl,Below.refl _ _⟩
 · have hE:s.toList.isEmpty=false:=by rw [hE0]; simpa using h0
   clear hE0;have h1:0<s.size:=by omega
   have HD:=Lib.hid (drop_byte s 0 h1);clear h0;by_cases h38:s[0]=38
   rotate_left
   · have e2:(((s[0].toNat:Nat):Int) != 38)=true:=by
      rw [bne_iff_ne]; intro e; exact h38 (UInt8.toNat_inj.1 (by simpa using (by omega:s[0].toNat=38)))
     have HS:Hid (refSpec s.data.toList = .bad 12):=by
      have h2:=HD.out;rw [List.drop_zero] at h2;rw [h2]; show _=_; simp only [refSpec]; rw [if_pos h38]
     clear h38;go_enter Tryz.func119,Tryz.ntmps119
     go_wp2
     go_ret3
     exact ⟨by rw [HS.out]; rfl,Below.refl _ _⟩
   · have e2:(((s[0].toNat:Nat):Int) != 38)=false:=by rw [h38]; decide
     obtain ⟨r,hr⟩ : ∃ r,s.data.toList=38::r:=⟨s.data.toList.drop 1,by have:=HD.out; rw [List.drop_zero,h38] at this; exact this⟩;clear h38 HD;have hrl:r.length+1=s.size:=by rw [← size_data,hr]; simp
     by_cases hn:r.head? = some 35
     · obtain ⟨q,rfl⟩ : ∃ q,r=35::q:=by
        cases r with
        | nil=>cases hn
        | cons x q=>simp at hn; exact ⟨q,by rw [hn]⟩
       have HX:Hid ((⟨#[38,35]⟩:ByteArray).data.toList.isPrefixOf s.data.toList=true):=by rw [hr]; rfl
       have HU:Hid ((s.extract 2 s.size).data.toList=q):=by rw [Lib.extract_to_end,hr]; rfl
       have h2:2≤s.size:=by simp at hrl; omega
       have hus:(s.extract 2 s.size).size≤1000000:=by rw [← size_data,HU.out]; simp at hrl; omega
       have HS:Hid (refSpec s.data.toList=numSpec q):=by rw [hr]; exact ref_num q
       clear hr hn;go_enter Tryz.func119,Tryz.ntmps119
       go_wp2_with (go_at_call 113; refine (hasPrefix_any _ _ _).mono ?_; rintro e w' ⟨rfl,rfl⟩; rw [HX.out])
       generalize s.extract 2 s.size=u at *;refine (number_any u _ hus).mono ?_
       rintro e w' ⟨rfl,hb⟩;rw [HU.out];cases hq:numSpec q
       all_goals
        have HQ:=Lib.hid hq;clear hq;simp only [refTuple];go_wp2
        go_ret3
        exact ⟨by rw [HS.out,HQ.out]; rfl,hb⟩
     · have HX:Hid ((⟨#[38,35]⟩:ByteArray).data.toList.isPrefixOf s.data.toList=false):=by
        rw [hr]; show ([38,35]:Bs).isPrefixOf (38::r)=false;cases r with
        | nil=>rfl
        | cons x q=>simp only [List.head?_cons,Option.some.injEq] at hn; simp [List.isPrefixOf,Ne.symm hn]
       have HU:Hid ((s.extract 1 s.size).data.toList=r):=by rw [Lib.extract_to_end,hr]; rfl
       have hus:(s.extract 1 s.size).size≤1000000:=by rw [← size_data,HU.out]; omega
       have hN:=span_le cLower r;have hrw:=ref_word r hn;rw [← hr] at hrw;have HS:=Lib.hid hrw;clear hrw
       have HV:Hid ((s.extract 1 (1+span cLower r)).data.toList=r.take (span cLower r)):=by
        rw [Lib.extract_data,hr]; show _=_; simp
       have hvs:(s.extract 1 (1+span cLower r)).size≤1000000:=by rw [← size_data,HV.out,List.length_take]; omega
       have HSP:Hid (∀ w,Calls Tryz.prog 70 #[.string (s.extract 1 s.size),.func (.func 134) #[] #[]] w fun e w'=>e = .returned (.int .i64 (span cLower r))∧w=w'):=fun w=>by
        have:=spanLower_any (s.extract 1 s.size) w (by omega)
        rw [HU.out] at this; exact this
       have hget : ∀ h:1+span cLower r<s.size,r[span cLower r]? = some (s[1+span cLower r]'h):=fun h=>by
        have:=congrArg (·[0]?) (drop_byte s (1+span cLower r) h)
        rw [hr] at this;simpa [Nat.add_comm 1] using this
       clear hn hr HU hus;generalize hNN:span cLower r=N at *;clear hNN;have n1:(1:Int)≤1+(N:Int):=by omega
       by_cases hend:N=r.length
       · have e1:(1+(N:Int) == (s.size:Int))=true:=beq_iff_eq.2 (by omega)
         have hn1:1+N≤s.size:=by omega
         have HE:=Lib.hid hend;clear hget hend;have HTK:Hid (r.take N=r):=by rw [HE.out]; exact List.take_length
         have HA:Hid (∀ j (h:j<5),∀ w,Calls Tryz.prog 113 #[.string (refTexts[j]'h),.string (s.extract 1 (1+N))] w fun e w'=>e = .returned (.bool (r.isPrefixOf (refTexts[j]'h).data.toList))∧w=w'):=fun j h w=>by
          have:=hasPrefix_any (refTexts[j]'h) (s.extract 1 (1+N)) w
          rw [HV.out,HTK.out] at this; exact this
         have hcells : ∀ j (h:j<5),(w.alloc (.cells #[.string ⟨#[108,116]⟩,.string ⟨#[103,116]⟩,.string ⟨#[97,109,112]⟩,.string ⟨#[113,117,111,116]⟩,.string ⟨#[97,112,111,115]⟩] 9)).cell? ⟨w.heap.size,j,none⟩=some (.string (refTexts[j]'h)):=fun j h=>by
          match j,h with
          | 0,_=>simp [go_sem,refTexts]
          | 1,_=>simp [go_sem,refTexts]
          | 2,_=>simp [go_sem,refTexts]
          | 3,_=>simp [go_sem,refTexts]
          | 4,_=>simp [go_sem,refTexts]
         have HC:=Lib.hid hcells;clear hcells;go_enter Tryz.func119,Tryz.ntmps119
         go_wp2_with (first | (go_at_call 113; refine (hasPrefix_any _ _ _).mono ?_; rintro e w' ⟨rfl,rfl⟩; rw [HX.out]) | (go_at_call 70; refine (HSP.out _).mono ?_; rintro e w' ⟨rfl,rfl⟩))
         generalize s.extract 1 (1+N)=v at *;go_loop [8,40] (fun _ i=>∃ j:Nat,j≤5∧i = .int .i64 j∧Hid (refAny r refTexts=refAny r (refTexts.drop j))) (fun _ i=>5 - (intOf i).toNat)
         case atStart=>exact ⟨0,by omega,rfl,rfl⟩
         case round =>
          obtain ⟨j,hj,rfl,H⟩:=hrel;by_cases hj5:j<5
          · have hcell:=HC.out j hj5
            have HD:Hid (refAny r (refTexts.drop j)=(r.isPrefixOf (refTexts[j]'hj5).data.toList || refAny r (refTexts.drop (j+1)))):=by
             rw [List.drop_eq_getElem_cons (show j<refTexts.length from hj5)]; rfl
            have HAj:=Lib.hid (HA.out j hj5);generalize refTexts[j]'hj5=t at *;cases hp:r.isPrefixOf t.data.toList
            all_goals
             have HP:=Lib.hid hp;clear hp;go_wp2_with (go_at_call 113; refine (HAj.out _).mono ?_; rintro e w' ⟨rfl,rfl⟩; rw [HP.out])
            · go_round
              case rel=>exact ⟨j+1,by omega,by go_num,by show _=_; rw [H.out,HD.out,HP.out]; rfl⟩
              case measure=>simp [intOf]; omega
            · go_ret3
              exact ⟨by rw [HS.out,if_pos HE.out,H.out,HD.out,HP.out]; rfl,(Below.refl _ _).alloc (Nat.le_refl _) _⟩
          · obtain rfl:j=5:=by omega
            go_wp2
            go_ret3
            exact ⟨by rw [HS.out,if_pos HE.out,H.out]; rfl,(Below.refl _ _).alloc (Nat.le_refl _) _⟩
       · have e1:(1+(N:Int) == (s.size:Int))=false:=beq_eq_false_iff_ne.2 (by omega)
         have hlt:1+N<s.size:=by omega
         have hc:=hget hlt;have HC:=Lib.hid hc;clear hget hc;have HE:=Lib.hid hend;clear hend;cases hm:named (r.take N) with
         | none =>
          have HM:=Lib.hid hm;have HNM:Hid (∀ w,Calls Tryz.prog 135 #[.string (s.extract 1 (1+N))] w fun e w'=>e = .returned (.string ⟨#[]⟩)∧w=w'):=fun w=>named_none _ w (by rw [HV.out]; exact hm);clear hm;go_enter Tryz.func119,Tryz.ntmps119
          go_wp2_with (first | (go_at_call 113; refine (hasPrefix_any _ _ _).mono ?_; rintro e w' ⟨rfl,rfl⟩; rw [HX.out]) | (go_at_call 70; refine (HSP.out _).mono ?_; rintro e w' ⟨rfl,rfl⟩) | (go_at_call 135; refine (HNM.out _).mono ?_; rintro e w' ⟨rfl,rfl⟩))
          go_ret3
          exact ⟨by rw [HS.out,if_neg HE.out,HM.out]; rfl,Below.refl _ _⟩
         | some c =>
          have HM:=Lib.hid hm;have HNM:Hid (∀ w,Calls Tryz.prog 135 #[.string (s.extract 1 (1+N))] w fun e w'=>e = .returned (.string ⟨#[c]⟩)∧w=w'):=fun w=>named_some _ c w (by rw [HV.out]; exact hm);clear hm;by_cases h59:s[1+N]=59
          · have e3:(((s[1+N].toNat:Nat):Int) == 59)=true:=by rw [h59]; decide
            have HT:=Lib.hid h59;clear h59;go_enter Tryz.func119,Tryz.ntmps119
            go_wp2_with (first | (go_at_call 113; refine (hasPrefix_any _ _ _).mono ?_; rintro e w' ⟨rfl,rfl⟩; rw [HX.out]) | (go_at_call 70; refine (HSP.out _).mono ?_; rintro e w' ⟨rfl,rfl⟩) | (go_at_call 135; refine (HNM.out _).mono ?_; rintro e w' ⟨rfl,rfl⟩))
            go_ret3
            exact ⟨by rw [HS.out,if_neg HE.out,HM.out]; simp only []; rw [if_pos (by rw [HC.out,HT.out])]; simp only [refTuple]; rw [show ((N+2:Nat):Int)=(N:Int)+2 by omega]; rfl,Below.refl _ _⟩
          · have e3:(((s[1+N].toNat:Nat):Int) == 59)=false:=by
             rw [beq_eq_false_iff_ne]; intro e; exact h59 (UInt8.toNat_inj.1 (by simpa using (by omega:s[1+N].toNat=59)))
            have HT:=Lib.hid h59;clear h59;go_enter Tryz.func119,Tryz.ntmps119
            go_wp2_with (first | (go_at_call 113; refine (hasPrefix_any _ _ _).mono ?_; rintro e w' ⟨rfl,rfl⟩; rw [HX.out]) | (go_at_call 70; refine (HSP.out _).mono ?_; rintro e w' ⟨rfl,rfl⟩) | (go_at_call 135; refine (HNM.out _).mono ?_; rintro e w' ⟨rfl,rfl⟩))
            go_ret3
            exact ⟨by rw [HS.out,if_neg HE.out,HM.out]; simp only []; rw [if_neg (by rw [HC.out]; simpa using HT.out)]; rfl,Below.refl _ _⟩
def pos (s:S) (l:Bs):Nat:=s.size - l.length
theorem pos_add {s:S} {l:Bs} (h:l <:+ s.data.toList):pos s l+l.length=s.size:=by
 have:=h.length_le
 rw [size_data] at this;unfold pos; omega
theorem pos_drop {s:S} {l:Bs} (h:l <:+ s.data.toList):s.data.toList.drop (pos s l)=l:=by
 have:=List.suffix_iff_eq_drop.1 h
 rw [size_data] at this;exact this.symm
theorem pos_extract {s:S} {l:Bs} (h:l <:+ s.data.toList):s.extract (pos s l) s.size=bs l:=by
 rw [Lib.extract_eq,pos_drop h];unfold bs;rw [List.take_of_length_le (by have:=pos_add h; omega)]
theorem pos_get {s:S} {l:Bs} {c:UInt8} (h:c::l <:+ s.data.toList) (hk:pos s (c::l)<s.size):s[pos s (c::l)]=c:=by
 have h1:=drop_byte s _ hk;rw [pos_drop h] at h1;exact (List.cons.inj h1).1.symm
theorem pos_lt {s:S} {l:Bs} {c:UInt8} (h:c::l <:+ s.data.toList):pos s (c::l)<s.size:=by
 have:=pos_add h
 simp only [List.length_cons] at this; omega
theorem pos_cons {s:S} {l:Bs} {c:UInt8} (h:c::l <:+ s.data.toList):pos s l=pos s (c::l)+1:=by
 have:=pos_add h; have:=pos_add (suf_tail h)
 simp only [List.length_cons] at *; omega
theorem pos_nil (s:S):pos s []=s.size:=by unfold pos; simp
structure Rd (w:World) (b:Nat) (s:S) (l:Bs) (ov:Value):Prop where
 box:Box w b [.string s,.int .i64 (pos s l:Nat),ov]
 suf:l <:+ s.data.toList
theorem Rd.c0 {w:World} {b:Nat} {s:S} {l:Bs} {ov:Value} (h:Rd w b s l ov):w.cell? ⟨b,0,none⟩=some (.string s):=h.box.cell 0 _ rfl
theorem Rd.c1 {w:World} {b:Nat} {s:S} {l:Bs} {ov:Value} (h:Rd w b s l ov):w.cell? ⟨b,1,none⟩=some (.int .i64 (pos s l:Nat)):=h.box.cell 1 _ rfl
theorem Rd.c2 {w:World} {b:Nat} {s:S} {l:Bs} {ov:Value} (h:Rd w b s l ov):w.cell? ⟨b,2,none⟩=some ov:=h.box.cell 2 _ rfl
theorem Rd.f1 {w:World} {b:Nat} {s:S} {l:Bs} {ov:Value} (h:Rd w b s l ov):w.frozen? ⟨b,1,none⟩=false:=h.box.free 1
theorem Rd.below {w w':World} {b:Nat} {s:S} {l:Bs} {ov:Value} (h:Rd w b s l ov) (hb:Below w.heap.size w w'):Rd w' b s l ov:=⟨h.box.below hb h.box.lt,h.suf⟩
theorem Rd.drewN {w:World} {b:Nat} {s:S} {l:Bs} {ov:Value} (h:Rd w b s l ov) (n:Nat):Rd (w.drewN n) b s l ov:=⟨h.box.drewN n,h.suf⟩
set_option maxHeartbeats 1000000 in
theorem rest_any (b:Nat) (s:S) (l:Bs) (ov:Value) (w:World) (h:Rd w b s l ov) :
    Calls Tryz.prog 114 #[.pointer (some ⟨b,0,none⟩)] w (Qt (.string (bs l)) w):=by
 have c0:=h.c0;have c1:=h.c1;have hp:=pos_add h.suf;have HE:=Lib.hid (pos_extract h.suf);have h1:pos s l≤s.size:=by omega
 clear h;generalize pos s l=p at *;have h2:(p:Int)≤(s.size:Int):=by omega
 go_enter Tryz.func114,Tryz.ntmps114
 go_wp2
 go_quiet (fail)
 go_wp2
 go_ret
 exact ⟨by rw [HE.out]; rfl,⟨_,rfl⟩⟩
set_option maxHeartbeats 1000000 in
theorem ends_any (b:Nat) (s:S) (l:Bs) (ov:Value) (w:World) (h:Rd w b s l ov) :
    Calls Tryz.prog 52 #[.pointer (some ⟨b,0,none⟩)] w (Qt (.bool l.isEmpty) w):=by
 have c0:=h.c0;have c1:=h.c1;have hp:=pos_add h.suf;clear h;generalize pos s l=p at *;go_enter Tryz.func52,Tryz.ntmps52
 go_wp2
 go_quiet (fail)
 go_wp2
 go_ret
 refine ⟨ret_bool ?_,⟨_,rfl⟩⟩
 cases l with
 | nil=>simp at hp ⊢; omega
 | cons c l=>simp at hp ⊢; omega
set_option maxHeartbeats 1000000 in
theorem has_pre (b:Nat) (s:S) (l:Bs) (ov:Value) (t:S) (w:World) (h:Rd w b s l ov) :
    Calls Tryz.prog 80 #[.pointer (some ⟨b,0,none⟩),.string t] w (Qt (.bool (t.data.toList.isPrefixOf l)) w):=by
 have HP:=Lib.hid (fun w=>hasPrefix_any (bs l) t w);rw [bs_data] at HP;go_enter Tryz.func80,Tryz.ntmps80
 go_wp2_with fail
 refine (rest_any b s l ov w h).mono ?_
 rintro e w' ⟨rfl,n,rfl⟩;generalize bs l=u at *;go_wp2_with fail
 refine (HP.out _).mono ?_
 rintro e w' ⟨rfl,rfl⟩;go_wp2
 go_ret
 exact ⟨rfl,⟨_,rfl⟩⟩
def faultV (e:Int) (n:Nat):Value:=.iface 124 (.agg #[.int .i64 e,.int .i64 n])
theorem fail_any (e:Int) (n:Nat) (w:World) :
    Calls Tryz.prog 116 #[.int .i64 e,.int .i64 n] w fun x w'=>x = .panicked [{ v:=faultV e n,recovered:=false }]∧w=w':=by
 go_enter Tryz.func116,Tryz.ntmps116
 go_wp2
 exact ⟨rfl,rfl,rfl⟩
theorem Rd.move {w:World} {b:Nat} {s:S} {l:Bs} {ov:Value} (h:Rd w b s l ov) {r:Bs} {v:Value} (hr:r <:+ s.data.toList) (hv:v = .int .i64 (pos s r:Nat)):Rd (w.setCell ⟨b,1,none⟩ v) b s r ov:=by
 subst hv;exact ⟨h.box.set 1 _,hr⟩
structure Goes (v:Value) (b:Nat) (s:S) (r:Bs) (ov:Value) (w:World) (e:Ending) (w':World):Prop where
 ret:e = .returned v
 rd:Rd w' b s r ov
 grown:w.grownBy w' (some b)
structure Bad (x:Int) (s:S) (r:Bs) (b:Nat) (w:World) (e:Ending) (w':World):Prop where
 pan:e = .panicked [{ v:=faultV x (pos s r),recovered:=false }]
 grown:w.grownBy w' (some b)
def placeOf (w:World) (b:Nat):Int:=match w.cell? ⟨b,1,none⟩ with
 | some (.int _ n)=>n
 | _=>0
theorem Rd.place {w:World} {b:Nat} {s:S} {l:Bs} {ov:Value} (h:Rd w b s l ov):placeOf w b=pos s l:=by unfold placeOf; rw [h.c1]
set_option maxRecDepth 100000 in
set_option maxHeartbeats 2000000 in
theorem blanks_any (b:Nat) (s:S) (l:Bs) (ov:Value) (w:World) (h:Rd w b s l ov) (hs:s.size≤1000000) :
    Calls Tryz.prog 84 #[.pointer (some ⟨b,0,none⟩)] w (Goes (.int .i64 (l.length - (blanks l).length:Nat)) b s (blanks l) ov w):=by
 have c1:=h.c1;have hq:pos s l≤s.size:=by have:=pos_add h.suf; omega
 have HP:Hid (pos s l+l.length=s.size):=pos_add h.suf;have HH:=Lib.hid h;clear h;go_enter Tryz.func84,Tryz.ntmps84
 go_wp2
 clear c1;go_loopw [] (fun wr=>∃ l',Rd wr b s l' ov∧w.grownBy wr (some b)∧Hid (blanks l=blanks l')) (fun wr=>s.size - (placeOf wr b).toNat)
 case atStart=>exact ⟨l,HH.out,World.grownBy.refl _ _,rfl⟩
 case round =>
  obtain ⟨l',hR,hg,HB⟩:=hrel;have HR:=Lib.hid hR;have c0:=hR.c0;have c1:=hR.c1;have f1:=hR.f1;have hlt:=hR.box.lt;have hpl:=hR.place;have HPL:=Lib.hid hpl;have hp:=pos_add hR.suf;clear hpl;cases l' with
  | nil =>
   have HN:Hid (∀ n,Calls Tryz.prog 52 #[.pointer (some ⟨b,0,none⟩)] (wr.drewN n) fun e w''=>e = .returned (.bool true) ∧ ∃ m,w''=wr.drewN m):=fun n=>Qt.quiet (ends_any b s [] ov (wr.drewN n) (HR.out.drewN n));have hp':pos s []≤s.size:=by omega
   clear hR hp;generalize hpp:pos s []=p at *;have HPP:=Lib.hid hpp;clear hpp;go_wp2
   go_quiet ((go_at_call 52; exact HN.out _))
   go_wp2
   go_ret
   have hbl:blanks l=[]:=HB.out;refine ⟨ret_int ?_,?_,hg.trans (grownN wr nq _)⟩
   · have h1:=HPP.out
     have h2:=HP.out;rw [pos_nil] at h1;rw [hbl]; simp; omega
   · rw [hbl]; exact HR.out.drewN nq
  | cons c r =>
   have HN:Hid (∀ n,Calls Tryz.prog 52 #[.pointer (some ⟨b,0,none⟩)] (wr.drewN n) fun e w''=>e = .returned (.bool false) ∧ ∃ m,w''=wr.drewN m):=fun n=>Qt.quiet (ends_any b s (c::r) ov (wr.drewN n) (HR.out.drewN n));have hpl:=pos_lt hR.suf;have HG:=Lib.hid (pos_get hR.suf hpl);have HC:=Lib.hid (pos_cons hR.suf);have hsuf:=suf_tail hR.suf;have HS:=Lib.hid hsuf;clear hR hp hsuf;generalize hpp:pos s (c::r)=p at *;have HPP:=Lib.hid hpp;clear hpp;have hpi:(p:Int)<(s.size:Int):=by omega
   have hpb:(p:Int)+1≤9223372036854775807:=by omega
   cases hcb:cBlank c
   all_goals
    have HI:Hid (∀ n,Calls Tryz.prog 71 #[.int .u8 s[p].toNat] (wr.drewN n) fun e w''=>e = .returned (.bool _) ∧ ∃ m,w''=wr.drewN m):=fun n=>quietS (by have:=isBlank_any s[p] (wr.drewN n); rw [HG.out,hcb] at this; rw [HG.out]; exact this);have HCB:=Lib.hid hcb;clear hcb;go_wp2
    go_quiet ((first | (go_at_call 52; exact HN.out _) | (go_at_call 71; exact HI.out _)))
    go_wp2
   · go_ret
     have hbl:blanks l=c::r:=by rw [HB.out]; simp [blanks,HCB.out]
     refine ⟨ret_int ?_,?_,hg.trans (grownN wr nq _)⟩
     · have h1:=HPP.out
       have h2:=HP.out;have h3:=pos_add HR.out.suf;have h4:=blanks_le l;rw [hbl] at h4 ⊢;omega
     · rw [hbl]; exact HR.out.drewN nq
   · go_roundw
     case rel =>
      refine ⟨r,(HR.out.drewN nq).move HS.out (by rw [HC.out]; rfl),?_,?_⟩
      · exact (hg.trans (grownN wr nq _)).trans (setCell_grown _ b 1 _)
      · show _=_; rw [HB.out]; simp [blanks,HCB.out]
     case measure =>
      have h3:placeOf ((wr.drewN nq).setCell ⟨b,1,none⟩ (.int .i64 ((p:Int)+1))) b=(p:Int)+1:=by
       have:=((HR.out.drewN nq).move HS.out (v:=.int .i64 ((p:Int)+1)) (by rw [HC.out]; rfl)).place
       rw [this,HC.out]; omega
      rw [h3,HPL.out]; omega
theorem bs_one (c:UInt8):(⟨#[c]⟩:S).data.toList=[c]:=rfl
set_option maxRecDepth 100000 in
set_option maxHeartbeats 2000000 in
theorem want_ok (b:Nat) (s:S) (c:UInt8) (r:Bs) (ov:Value) (w:World) (h:Rd w b s (c::r) ov) (hs:s.size≤1000000) :
    Calls Tryz.prog 85 #[.pointer (some ⟨b,0,none⟩),.string ⟨#[c]⟩] w (Goes (.tuple #[]) b s r ov w):=by
 have c1:=h.c1;have f1:=h.f1;have hlt:=h.box.lt;have hpl:=pos_lt h.suf;have HN:Hid (Calls Tryz.prog 52 #[.pointer (some ⟨b,0,none⟩)] w (Qt (.bool false) w)):=ends_any b s (c::r) ov w h
 have HA:Hid (∀ n,Calls Tryz.prog 80 #[.pointer (some ⟨b,0,none⟩),.string ⟨#[c]⟩] (w.drewN n) (Qt (.bool true) (w.drewN n))):=fun n=>by
  have:=has_pre b s (c::r) ov ⟨#[c]⟩ (w.drewN n) (h.drewN n)
  rw [bs_one] at this;simpa [List.isPrefixOf] using this
 have HC:=Lib.hid (pos_cons h.suf);have HS:=Lib.hid (suf_tail h.suf);have HR:=Lib.hid h;clear h;generalize pos s (c::r)=p at *;go_enter Tryz.func85,Tryz.ntmps85
 go_wp2_with fail
 refine HN.out.mono ?_
 rintro e w' ⟨rfl,n,rfl⟩;go_wp2_with fail
 refine (HA.out _).mono ?_
 rintro e w' ⟨rfl,n2,rfl⟩;go_wp2
 go_end0
 refine ⟨rfl,?_,?_⟩
 · exact (HR.out.drewN _).move HS.out (v:=.int .i64 ((p:Int)+1)) (by rw [HC.out]; rfl)
 · exact (grownN w _ _).trans (setCell_grown _ b 1 _)
set_option maxRecDepth 100000 in
set_option maxHeartbeats 2000000 in
theorem want_no (b:Nat) (s:S) (c x:UInt8) (r:Bs) (ov:Value) (w:World) (h:Rd w b s (x::r) ov) (hne:x≠c) :
    Calls Tryz.prog 85 #[.pointer (some ⟨b,0,none⟩),.string ⟨#[c]⟩] w (Bad 10 s (x::r) b w):=by
 have c1:=h.c1;have hlt:=h.box.lt;have HN:Hid (Calls Tryz.prog 52 #[.pointer (some ⟨b,0,none⟩)] w (Qt (.bool false) w)):=ends_any b s (x::r) ov w h
 have HA:Hid (∀ n,Calls Tryz.prog 80 #[.pointer (some ⟨b,0,none⟩),.string ⟨#[c]⟩] (w.drewN n) (Qt (.bool false) (w.drewN n))):=fun n=>by
  have:=has_pre b s (x::r) ov ⟨#[c]⟩ (w.drewN n) (h.drewN n)
  rw [bs_one] at this;have hcx:(c == x)=false:=by simpa using Ne.symm hne
  simpa [List.isPrefixOf,hcx] using this
 clear h hne;go_enter Tryz.func85,Tryz.ntmps85
 go_wp2_with fail
 refine HN.out.mono ?_
 rintro e w' ⟨rfl,n,rfl⟩;go_wp2_with fail
 refine (HA.out _).mono ?_
 rintro e w' ⟨rfl,n2,rfl⟩;go_wp2_with fail
 refine (fail_any _ _ _).mono ?_
 rintro e w' ⟨rfl,rfl⟩;go_wp2
 exact ⟨rfl,rfl,grownN w _ _⟩
set_option maxRecDepth 100000 in
set_option maxHeartbeats 2000000 in
theorem want_end (b:Nat) (s:S) (t:S) (ov:Value) (w:World) (h:Rd w b s [] ov) :
    Calls Tryz.prog 85 #[.pointer (some ⟨b,0,none⟩),.string t] w (Bad 13 s [] b w):=by
 have c1:=h.c1;have hlt:=h.box.lt;have HN:Hid (Calls Tryz.prog 52 #[.pointer (some ⟨b,0,none⟩)] w (Qt (.bool true) w)):=ends_any b s [] ov w h;clear h;go_enter Tryz.func85,Tryz.ntmps85
 go_wp2_with fail
 refine HN.out.mono ?_
 rintro e w' ⟨rfl,n,rfl⟩;go_wp2_with fail
 refine (fail_any _ _ _).mono ?_
 rintro e w' ⟨rfl,rfl⟩;go_wp2
 exact ⟨rfl,rfl,grownN w n _⟩
def Out {α:Type} (f:α→Value) (b:Nat) (s:S) (ov:Value) (w:World):Res α→Ending→World→Prop
 | .ok a r=>Goes (f a) b s r ov w
 | .bad e r=>Bad e s r b w
theorem want_any (b:Nat) (s:S) (c:UInt8) (l:Bs) (ov:Value) (w:World) (h:Rd w b s l ov) (hs:s.size≤1000000) :
    Calls Tryz.prog 85 #[.pointer (some ⟨b,0,none⟩),.string ⟨#[c]⟩] w (Out (fun _=>.tuple #[]) b s ov w (wantC c l)):=by
 cases l with
 | nil=>exact want_end b s _ ov w h
 | cons x r =>
  by_cases hx:x=c
  · subst hx
    simp only [wantC,if_true];exact want_ok b s x r ov w h hs
  · simp only [wantC,hx,if_false]
    exact want_no b s c x r ov w h hx
set_option maxRecDepth 100000 in
set_option maxHeartbeats 2000000 in
theorem rname_any (b:Nat) (s:S) (x:Int) (l:Bs) (ov:Value) (w:World) (h:Rd w b s l ov) (hs:s.size≤1000000) :
    Calls Tryz.prog 83 #[.pointer (some ⟨b,0,none⟩),.int .i64 x] w (Out (fun n=>.string (bs n)) b s ov w (nameR x l)):=by
 have c1:=h.c1;have hlt:=h.box.lt;have HR:=Lib.hid h;cases l with
 | nil =>
  have HN:Hid (Calls Tryz.prog 52 #[.pointer (some ⟨b,0,none⟩)] w (Qt (.bool true) w)):=ends_any b s [] ov w h;clear h;go_enter Tryz.func83,Tryz.ntmps83
  go_wp2_with fail
  refine HN.out.mono ?_
  rintro e w' ⟨rfl,n,rfl⟩;go_wp2_with fail
  refine (fail_any _ _ _).mono ?_
  rintro e w' ⟨rfl,rfl⟩;go_wp2
  exact ⟨rfl,rfl,grownN w n _⟩
 | cons c l =>
  have HN:Hid (Calls Tryz.prog 52 #[.pointer (some ⟨b,0,none⟩)] w (Qt (.bool false) w)):=ends_any b s (c::l) ov w h;have HT:Hid (∀ n,Calls Tryz.prog 114 #[.pointer (some ⟨b,0,none⟩)] (w.drewN n) (Qt (.string (bs (c::l))) (w.drewN n))):=fun n=>rest_any b s (c::l) ov (w.drewN n) (h.drewN n);have hle:=pos_add h.suf
  have HM:Hid (∀ w,Calls Tryz.prog 117 #[.string (bs (c::l))] w fun e w'=>e = .returned (.int .i64 (nameLen (c::l)))∧w=w'):=fun w=>by
   have:=name_any (bs (c::l)) w (by rw [bs_size]; omega)
   rw [bs_data] at this; exact this
  by_cases h0:nameLen (c::l)=0
  · have e0:((nameLen (c::l):Int) == 0)=true:=beq_iff_eq.2 (by omega)
    have HO:Hid (nameR x (c::l) = .bad x (c::l)):=by show _=_; simp only [nameR,h0,if_true]
    clear h h0 hle;generalize nameLen (c::l)=k at *;generalize bs (c::l)=u at *;go_enter Tryz.func83,Tryz.ntmps83
    go_wp2_with fail
    refine HN.out.mono ?_
    rintro e w' ⟨rfl,n,rfl⟩;go_wp2_with fail
    refine (HT.out _).mono ?_
    rintro e w' ⟨rfl,n2,rfl⟩;go_wp2_with fail
    refine (HM.out _).mono ?_
    rintro e w' ⟨rfl,rfl⟩;go_wp2_with fail
    refine (fail_any _ _ _).mono ?_
    rintro e w' ⟨rfl,rfl⟩;go_wp2
    rw [HO.out];exact ⟨rfl,rfl,grownN w _ _⟩
  · have e0:((nameLen (c::l):Int) == 0)=false:=beq_eq_false_iff_ne.2 (by omega)
    have HO:Hid (nameR x (c::l) = .ok ((c::l).take (nameLen (c::l))) ((c::l).drop (nameLen (c::l)))):=by show _=_; simp only [nameR,h0,if_false]
    have hnl:=nameLen_le (c::l);have hsuf:=(List.drop_suffix (nameLen (c::l)) (c::l)).trans h.suf
    have hp2:pos s ((c::l).drop (nameLen (c::l)))=pos s (c::l)+nameLen (c::l):=by
     have:=pos_add hsuf; rw [List.length_drop] at this; omega
    have HX:Hid (s.extract (pos s (c::l)) (pos s (c::l)+nameLen (c::l))=bs ((c::l).take (nameLen (c::l)))):=by
     show _=_
     rw [Lib.extract_eq,pos_drop h.suf,Nat.add_sub_cancel_left]; rfl
    have HP2:=Lib.hid hp2;have HS:=Lib.hid hsuf;have hle2:pos s (c::l)+nameLen (c::l)≤s.size:=by omega
    clear h h0 hle hp2 hsuf hnl;generalize nameLen (c::l)=k at *;generalize bs (c::l)=u at *;generalize hpp:pos s (c::l)=p at *;have HPP:=Lib.hid hpp;clear hpp;go_enter Tryz.func83,Tryz.ntmps83
    go_wp2_with fail
    refine HN.out.mono ?_
    rintro e w' ⟨rfl,n,rfl⟩;go_wp2_with fail
    refine (HT.out _).mono ?_
    rintro e w' ⟨rfl,n2,rfl⟩;have f1:=HR.out.f1;go_wp2_with fail
    refine (HM.out _).mono ?_
    rintro e w' ⟨rfl,rfl⟩;go_wp2
    refine wp_world ?_
    intro W hW;have hR:Rd W b s ((c::l).drop k) ov:=by rw [hW]; exact (HR.out.drewN _).move HS.out (v:=.int .i64 ((p:Int)+k)) (by rw [HP2.out]; rfl)
    have hG:Hid (w.grownBy W (some b)):=by rw [hW]; exact (grownN w _ _).trans (setCell_grown _ b 1 _)
    clear hW c1 f1;have c0:=hR.c0;have c1:=hR.c1;rw [HP2.out] at c1;have hlt2:=hR.box.lt;have HR2:=Lib.hid hR;clear hR;have w1:IntKind.i64.wrap (((p+k:Nat):Int) - (k:Int))=(p:Int):=by rw [show ((p+k:Nat):Int) - (k:Int)=(p:Int) by omega]; exact IntWalk.i64_in _ (by omega)
    have w2:(p:Int)≤((p+k:Nat):Int):=by omega
    have w3:((p+k:Nat):Int)≤(s.size:Int):=by omega
    go_quiet (fail)
    go_wp2
    go_ret
    rw [HO.out];exact ⟨by rw [HX.out]; rfl,HR2.out.drewN nq,hG.out.trans (grownN W nq _)⟩
theorem index_room {l til:Bs} (h:0≤Lib.index l til):(Lib.index l til).toNat+til.length≤l.length:=by
 induction l with
 | nil =>
  unfold Lib.index at h ⊢;split
  · rename_i h2; simp at h2; simp [h2]
  · rename_i h2; rw [if_neg h2] at h; omega
 | cons c l ih =>
  have hge:=Lib.index_ge l til;unfold Lib.index at h ⊢;split
  · rename_i h2
    have:=(List.isPrefixOf_iff_prefix.1 h2).length_le
    simpa using this
  · rename_i h2
    rw [if_neg h2] at h;split
    · rename_i h3; rw [if_pos h3] at h; omega
    · rename_i h3
      have h4:0≤Lib.index l til:=by simp at h3; omega
      have:=ih h4
      simp only [List.length_cons]; omega
set_option maxRecDepth 100000 in
set_option maxHeartbeats 4000000 in
theorem until_any (b:Nat) (s fr til:S) (l0 l:Bs) (ov:Value) (m:Int) (w:World) (h:Rd w b s l0 ov) (hl:l=l0.drop fr.size) (hfs:fr.size≤l0.length) (hs:s.size≤1000000) (hm:w.cell? ⟨0,0,none⟩=some (.int .i64 m))
    (ht:til.data.toList≠[]) (hts:til.size≤100) :
    Calls Tryz.prog 81 #[.pointer (some ⟨b,0,none⟩),.string fr,.string til] w (Out (fun t=>.string (bs t)) b s ov w (plain til.data.toList l)):=by
 have hsuf:l <:+ s.data.toList:=by rw [hl]; exact (List.drop_suffix _ _).trans h.suf
 have hpl:pos s l=pos s l0+fr.size:=by
  have h1:=pos_add h.suf;have h2:=pos_add hsuf;have h3:l.length=l0.length - fr.size:=by rw [hl,List.length_drop]
  omega
 have hadd:=pos_add hsuf;have HO:Hid (plain til.data.toList l=untilP til.data.toList l):=plain_until ht l;have hge:=Lib.index_ge l til.data.toList;have hroom:=fun h0=>index_room (l:=l) (til:=til.data.toList) h0;rw [size_data] at hroom
 have HI:Hid (∀ w,w.cell? ⟨0,0,none⟩=some (.int .i64 m)→Calls Tryz.prog 92 #[.string (bs l),.string til] w fun e w'=>e = .returned (.int .i64 (Lib.index l til.data.toList))∧w=w'):=fun w hw=>by
  have:=index_any (bs l) til m w (by rw [bs_size]; omega) hw
  rw [bs_data] at this; exact this
 have HU:Hid (untilP til.data.toList l=if 0≤Lib.index l til.data.toList then
  if span cText (l.take (Lib.index l til.data.toList).toNat)<(Lib.index l til.data.toList).toNat then .bad 10 (l.drop (span cText (l.take (Lib.index l til.data.toList).toNat)))
  else .ok (l.take (Lib.index l til.data.toList).toNat) (l.drop ((Lib.index l til.data.toList).toNat+til.size))
 else if span cText l<l.length then .bad 10 (l.drop (span cText l)) else .bad 13 []):=by show _=_; rw [← size_data til]; rfl
 have c1:=h.c1;have f1:=h.f1;have hlt:=h.box.lt;have HR:=Lib.hid h;have HM:=Lib.hid hm;have HS:=Lib.hid hsuf;have HPL:=Lib.hid hpl;have hq0:pos s l0+fr.size≤s.size:=by omega
 clear h hm hl hsuf;generalize hI:Lib.index l til.data.toList=n at *;clear hI;generalize pos s l0=p0 at *;have hpp:pos s l≤s.size:=by omega
 have HADD:=Lib.hid hadd;clear hadd hpl;generalize hpg:pos s l=p at *;have HPG:=Lib.hid hpg;clear hpg;by_cases hn:0≤n
 · obtain ⟨k,rfl⟩:=Int.eq_ofNat_of_zero_le hn
   have hk:=hroom hn;rw [Int.toNat_natCast] at hk;have hkl:k≤l.length:=by omega
   have hk0:(0:Int)≤(k:Int):=by omega
   have hk1:k≤(bs l).size:=by rw [bs_size]; exact hkl
   have HV:Hid ((bs l).extract 0 k=bs (l.take k)):=by show _=_; rw [bs_extract]; simp
   have HVL:Hid ((bs (l.take k)).size=k):=by show _=_; rw [bs_size,List.length_take]; omega
   have hneg : ¬ (k:Int)<0:=by omega
   have hkp:p+(k+til.size)≤s.size:=by have:=HADD.out; omega
   have HBAD:Hid (∀ j,span cText (bs (l.take k)).data.toList=j→j<(bs (l.take k)).size→plain til.data.toList l = .bad 10 (l.drop j)∧pos s (l.drop j)=p+j):=fun j h1 h2=>by
    rw [HVL.out] at h2;rw [bs_data] at h1;refine ⟨by rw [HO.out,HU.out,if_pos hn,Int.toNat_natCast,h1,if_pos h2],?_⟩
    have h3:=pos_add ((List.drop_suffix j l).trans HS.out);have h4:=HADD.out;rw [List.length_drop] at h3; omega
   have HOK:Hid (span cText (bs (l.take k)).data.toList=k→plain til.data.toList l = .ok (l.take k) (l.drop (k+til.size))∧pos s (l.drop (k+til.size))=p+(k+til.size)∧l.drop (k+til.size) <:+ s.data.toList):=fun h1=>by
    rw [bs_data] at h1;have h0:=(List.drop_suffix (k+til.size) l).trans HS.out;refine ⟨by rw [HO.out,HU.out,if_pos hn,Int.toNat_natCast,h1,if_neg (by omega)],?_,h0⟩
    have h3:=pos_add h0;have h4:=HADD.out;rw [List.length_drop] at h3; omega
   clear hroom hge;go_enter Tryz.func81,Tryz.ntmps81
   go_wp2_with fail
   refine Calls.world ?_
   intro W hW;have hR:Rd W b s l ov:=by rw [hW]; exact HR.out.move HS.out (v:=.int .i64 ((p0:Int)+fr.size)) (by rw [HPG.out,HPL.out]; rfl)
   have hm:W.cell? ⟨0,0,none⟩=some (.int .i64 m):=by rw [hW,World.cell?_setCell_other _ _ _ _ (by simp)]; exact HM.out
   have hG:Hid (w.grownBy W (some b)):=by rw [hW]; exact setCell_grown _ b 1 _
   clear hW c1 f1;have c1:=hR.c1;rw [HPG.out] at c1;have f1:=hR.f1;have hltW:=hR.box.lt;have HR2:=Lib.hid hR;clear hR;have HRT:=Lib.hid (fun n=>rest_any b s l ov (W.drewN n) (HR2.out.drewN n));have HRT0:=Lib.hid (rest_any b s l ov W HR2.out);generalize bs l=u at *;refine HRT0.out.mono ?_
   rintro e w' ⟨rfl,n1,rfl⟩;go_wp2_with fail
   refine (HI.out _ (show (W.drewN n1).cell? _=_ from hm)).mono ?_
   rintro e w' ⟨rfl,rfl⟩;go_wp2_with fail
   refine (HRT.out _).mono ?_
   rintro e w' ⟨rfl,n2,rfl⟩;go_wp2
   rw [HV.out];have HVK:=Lib.hid (show k≤l.length from hkl);clear HV;generalize hvv:bs (l.take k)=v at *;have HVV:=Lib.hid hvv;clear hvv;go_loop [9,38] (fun _ i=>∃ j:Nat,j≤k∧i = .int .i64 j∧Hid (span cText v.data.toList=j+span cText (v.data.toList.drop j))) (fun _ i=>k - (intOf i).toNat)
   case atStart=>exact ⟨0,Nat.zero_le _,rfl,by show _=_; simp⟩
   case round =>
    obtain ⟨j,hj,rfl,H⟩:=hrel;by_cases hjk:j<k
    · have hjv:j<v.size:=by have:=HVL.out; omega
      have HD:=Lib.hid (drop_byte v j hjv);have hjp:(p:Int)+(j:Int)≤1000000:=by have:=HADD.out; have:=HVK.out; omega
      cases hp:cText v[j]
      all_goals
       have HP:=Lib.hid hp;clear hp
      · have HJ:=Lib.hid (HBAD.out j (by rw [H.out,HD.out]; simp [span,HP.out]) hjv)
        go_wp2_with (go_at_call 115; refine (isText_any _ _).mono ?_; rintro e w' ⟨rfl,rfl⟩; rw [HP.out])
        refine (fail_any 10 (p+j) _).mono ?_
        rintro e w' ⟨rfl,rfl⟩;go_wp2
        rw [HJ.out.1];exact ⟨rfl,by rw [HJ.out.2],hG.out.trans (grownN W _ _)⟩
      · go_wp2_with (go_at_call 115; refine (isText_any _ _).mono ?_; rintro e w' ⟨rfl,rfl⟩; rw [HP.out])
        go_round
        case rel=>exact ⟨j+1,by omega,by go_num,by show _=_; rw [H.out,HD.out]; simp only [span,HP.out,if_true]; omega⟩
        case measure=>simp [intOf]; omega
    · have hall:span cText v.data.toList=k:=by
       have:=HVL.out
       rw [H.out,List.drop_of_length_le (by rw [size_data]; omega)]; simp [span]; omega
      have HK:=Lib.hid (HOK.out hall);clear hall H;go_wp2
      go_ret
      rw [HK.out.1];refine ⟨by show _=Ending.returned (.string (bs (l.take k))); rw [HVV.out]; rfl,?_,(hG.out.trans (grownN W _ _)).trans (setCell_grown _ b 1 _)⟩
      exact (HR2.out.drewN _).move HK.out.2.2 (v:=.int .i64 ((p:Int)+((k:Int)+(til.size:Int)))) (by rw [HK.out.2.1]; rfl)
 · have hn1:n = -1:=by omega
   have HBAD:Hid (∀ j,span cText (bs l).data.toList=j→j<(bs l).size→plain til.data.toList l = .bad 10 (l.drop j)∧pos s (l.drop j)=p+j):=fun j h1 h2=>by
    rw [bs_size] at h2;rw [bs_data] at h1;refine ⟨by rw [HO.out,HU.out,if_neg hn,h1,if_pos h2],?_⟩
    have h3:=pos_add ((List.drop_suffix j l).trans HS.out);have h4:=HADD.out;rw [List.length_drop] at h3; omega
   have HEND:Hid (span cText (bs l).data.toList=(bs l).size→plain til.data.toList l = .bad 13 []):=fun h1=>by
    rw [bs_data,bs_size] at h1;rw [HO.out,HU.out,if_neg hn,h1,if_neg (by omega)]
   have HVK:Hid ((bs l).size≤l.length):=by show _≤_; rw [bs_size]; exact Nat.le_refl _
   subst hn1;clear hroom hge hn HU;go_enter Tryz.func81,Tryz.ntmps81
   go_wp2_with fail
   refine Calls.world ?_
   intro W hW;have hR:Rd W b s l ov:=by rw [hW]; exact HR.out.move HS.out (v:=.int .i64 ((p0:Int)+fr.size)) (by rw [HPG.out,HPL.out]; rfl)
   have hm:W.cell? ⟨0,0,none⟩=some (.int .i64 m):=by rw [hW,World.cell?_setCell_other _ _ _ _ (by simp)]; exact HM.out
   have hG:Hid (w.grownBy W (some b)):=by rw [hW]; exact setCell_grown _ b 1 _
   clear hW c1 f1;have c0:=hR.c0;have c1:=hR.c1;rw [HPG.out] at c1;have hltW:=hR.box.lt;have HR2:=Lib.hid hR;clear hR;have HRT:=Lib.hid (fun n=>rest_any b s l ov (W.drewN n) (HR2.out.drewN n));have HRT0:=Lib.hid (rest_any b s l ov W HR2.out);generalize bs l=v at *;refine HRT0.out.mono ?_
   rintro e w' ⟨rfl,n1,rfl⟩;go_wp2_with fail
   refine (HI.out _ (show (W.drewN n1).cell? _=_ from hm)).mono ?_
   rintro e w' ⟨rfl,rfl⟩;go_wp2_with fail
   refine (HRT.out _).mono ?_
   rintro e w' ⟨rfl,n2,rfl⟩;go_wp2
   go_loop [9,38] (fun _ i=>∃ j:Nat,j≤v.size∧i = .int .i64 j∧Hid (span cText v.data.toList=j+span cText (v.data.toList.drop j))) (fun _ i=>v.size - (intOf i).toNat)
   case atStart=>exact ⟨0,Nat.zero_le _,rfl,by show _=_; simp⟩
   case round =>
    obtain ⟨j,hj,rfl,H⟩:=hrel;by_cases hjk:j<v.size
    · have hjv:j<v.size:=hjk
      have HD:=Lib.hid (drop_byte v j hjv);have hjp:(p:Int)+(j:Int)≤1000000:=by have:=HADD.out; have:=HVK.out; omega
      cases hp:cText v[j]
      all_goals
       have HP:=Lib.hid hp;clear hp
      · have HJ:=Lib.hid (HBAD.out j (by rw [H.out,HD.out]; simp [span,HP.out]) hjv)
        go_wp2_with (go_at_call 115; refine (isText_any _ _).mono ?_; rintro e w' ⟨rfl,rfl⟩; rw [HP.out])
        refine (fail_any 10 (p+j) _).mono ?_
        rintro e w' ⟨rfl,rfl⟩;go_wp2
        rw [HJ.out.1];exact ⟨rfl,by rw [HJ.out.2],hG.out.trans (grownN W _ _)⟩
      · go_wp2_with (go_at_call 115; refine (isText_any _ _).mono ?_; rintro e w' ⟨rfl,rfl⟩; rw [HP.out])
        go_round
        case rel=>exact ⟨j+1,by omega,by go_num,by show _=_; rw [H.out,HD.out]; simp only [span,HP.out,if_true]; omega⟩
        case measure=>simp [intOf]; omega
    · have hall:span cText v.data.toList=v.size:=by
       rw [H.out,List.drop_of_length_le (by rw [size_data]; omega)]; simp [span]; omega
      have HK:=Lib.hid (HEND.out hall);clear hall H;go_wp2_with fail
      refine (fail_any 13 s.size _).mono ?_
      rintro e w' ⟨rfl,rfl⟩;go_wp2
      rw [HK.out];exact ⟨rfl,by rw [pos_nil],hG.out.trans (grownN W _ _)⟩
theorem info_byte:(Tryz.prog.info? 5).map (fun i=>(i.zero,i.size,i.bytes))=some (some (.int .u8 0),1,1):=by kernel_rfl
theorem size_builder:(Tryz.prog.info? 74).map (·.size)=some 2:=by kernel_rfl
set_option maxHeartbeats 1000000 in
set_option maxRecDepth 100000 in
theorem copyCheck_used (b:Nat) (w:World) (h0:w.cell? ⟨b,0,none⟩=some (.pointer (some ⟨b,0,none⟩))) :
    Calls Tryz.prog 61 #[.pointer (some ⟨b,0,none⟩)] w fun e w'=>e = .returned (.tuple #[])∧w'=w:=by
 obtain ⟨j,hj,_⟩:=Option.map_eq_some_iff.1 size_builder;go_enter Tryz.func61,Tryz.ntmps61
 go_wp2
 rw [Lib.run_neq_ptr_same w _ Tryz.underlying71 hj];go_wp2
 go_end0
 exact ⟨rfl,rfl⟩
set_option maxHeartbeats 1000000 in
set_option maxRecDepth 100000 in
theorem copyCheck_fresh (b:Nat) (w:World) (h0:w.cell? ⟨b,0,none⟩=some (.pointer none)) (hsh:w.shape? b=some (74,2)) (hfz:w.frozen? ⟨b,0,none⟩=false) :
    Calls Tryz.prog 61 #[.pointer (some ⟨b,0,none⟩)] w fun e w'=>e = .returned (.tuple #[])∧w'=w.setCell ⟨b,0,none⟩ (.pointer (some ⟨b,0,none⟩)):=by
 obtain ⟨j,hj,hjs⟩:=Option.map_eq_some_iff.1 size_builder;go_enter Tryz.func61,Tryz.ntmps61
 go_wp2
 rw [Lib.run_to_unsafe w ⟨b,0,none⟩ Tryz.underlying71 Tryz.underlying164 hj (by rw [hjs]; decide) hsh (Nat.zero_lt_succ 1)];simp only [Result.andThen];rw [Oper.upon_value];go_wp2
 rw [run_callFunc_extern Tryz.func94 (by kernel_rfl) (by kernel_rfl) (by kernel_rfl) (e:=Extern.AbiNoEscape.same) (by kernel_rfl)];rw [Lib.run_noEscape];simp only [Result.andThen];rw [Oper.upon_value];go_wp2
 rw [Lib.run_from_unsafe w ⟨b,0,none⟩ Tryz.underlying164 Tryz.underlying71 hj hsh (by kernel_rfl)];simp only [Result.andThen];rw [Oper.upon_value];go_wp2
 go_end0
 exact ⟨rfl,rfl⟩
theorem copyCheck_any (B b:Nat) (bs:List Value) (w:World) (h:Lib.IsBuilder 74 5 B b bs w) :
    Calls Tryz.prog 61 #[.pointer (some ⟨b,0,none⟩)] w fun e w'=>e = .returned (.tuple #[])∧(Lib.BuilderAt 74 5 B b (.pointer (some ⟨b,0,none⟩)) bs w'∧Below B w w'):=by
 rcases h with h | h
 · refine (copyCheck_fresh b w h.cell0 h.shape h.frozen0).mono ?_
   rintro e w' ⟨rfl,rfl⟩;exact ⟨rfl,h.used _,(Below.refl B w).setCell (p:=⟨b,0,none⟩) h.1 _⟩
 · refine (copyCheck_used b w h.cell0).mono ?_
   rintro e w' ⟨rfl,rfl⟩;exact ⟨rfl,h,Below.refl B _⟩
set_option maxHeartbeats 2000000 in
set_option maxRecDepth 100000 in
theorem writeByte_any (B b:Nat) (bs:List Value) (c:Int) (w:World) (h:Lib.IsBuilder 74 5 B b bs w) (hlen:bs.length+1≤140737488355328) (hBw:B≤w.heap.size) :
    Calls Tryz.prog 62 #[.pointer (some ⟨b,0,none⟩),.int .u8 c] w fun e w'=>e = .returned .nilIface∧(Lib.BuilderAt 74 5 B b (.pointer (some ⟨b,0,none⟩)) (bs ++ [.int .u8 c]) w'∧Below B w w'):=by
 obtain ⟨i0,hi,hz0,hz1,hz2⟩:=info_parts info_byte;go_enter Tryz.func62,Tryz.ntmps62
 go_wp2_with (go_at_call 61; refine (copyCheck_any B b bs _ h).mono ?_)
 rintro e w1 ⟨rfl,h1,hb1⟩;obtain ⟨hB,v,hbk,hown,hne⟩:=h1;have c0:w1.cell? ⟨b,0,none⟩=some (.pointer (some ⟨b,0,none⟩)):=by rw [Lib.cell_of_heap hbk]; rfl
 have c1:w1.cell? ⟨b,1,none⟩=some v:=by rw [Lib.cell_of_heap hbk]; rfl
 go_wp2_with (at_builtin; refine wpList_append_own _ rfl _ _ 72 rfl B 5 i0 (.int .u8 0) 1 1 Tryz.underlying72 hi hz0 hz1 hz2 rfl (by decide) _ _ _ rfl (hown.alloc _) ⟨w1.heap.size,0,none⟩ 1 1 [.int .u8 c] rfl rfl ?c1 ?c2 ?c3 ?c4 ?c5 ?_)
 case c1 =>
  intro j u hj;match j,hj with
  | 0,hj=>simp at hj; subst hj; simp [Addr.add]
 case c2=>intro u hu; simp at hu; subst hu; rfl
 case c3=>unfold maxLen; omega
 case c4=>omega
 case c5=>have:=hb1.size; simp; omega
 intro v' w2 hown' hgrow _
 have hlt:b<w1.heap.size:=by
  rcases Nat.lt_or_ge b w1.heap.size with h' | h'
  · exact h'
  · simp [Array.getElem?_eq_none h'] at hbk
 have hb2:w2.heap[b]? = some (.cells #[.pointer (some ⟨b,0,none⟩),v] 74 (0,0)):=by
  rw [hgrow.block b (by simp; omega) (fun e=>hne e.symm),Lib.alloc_old w1 _ b hlt];exact hbk
 have d0:w2.cell? ⟨b,0,none⟩=some (.pointer (some ⟨b,0,none⟩)):=by rw [Lib.cell_of_heap hb2]; rfl
 have d1:w2.cell? ⟨b,1,none⟩=some v:=by rw [Lib.cell_of_heap hb2]; rfl
 have f1:w2.frozen? ⟨b,1,none⟩=false:=Lib.frozen_of_heap hb2 1
 obtain ⟨g,cap,rfl⟩ : ∃ g cap,v' = .slice (some ⟨g,0,none⟩) (bs.length+1) cap:=by
  rcases hown'.2 with ⟨_,h0⟩ | ⟨g,cap,cur,hv,_⟩
  · omega
  · exact ⟨g,cap,hv⟩
 go_wp2
 go_ret
 refine ⟨rfl,?_,?_⟩
 · exact Lib.BuilderAt.put (T:=74) (e:=5) hB hb2 (bs':=bs ++ [.int .u8 c]) (by simpa using hown') (by decide)
 · exact ((hb1.alloc (by have:=hb1.size; omega) _).grown hgrow (by have:=hb1.size; simp; omega) (fun k hk=>(hown.lt k hk).1)).setCell (p:=⟨b,1,none⟩) hB _
set_option maxHeartbeats 2000000 in
set_option maxRecDepth 100000 in
theorem writeString_any (B b:Nat) (bs:List Value) (s:ByteArray) (w:World) (h:Lib.IsBuilder 74 5 B b bs w) (hlen:bs.length+s.size≤140737488355328) (hBw:B≤w.heap.size) :
    Calls Tryz.prog 30 #[.pointer (some ⟨b,0,none⟩),.string s] w fun e w'=>e = .returned (.tuple #[.int .i64 s.size,.nilIface])∧(Lib.BuilderAt 74 5 B b (.pointer (some ⟨b,0,none⟩)) (bs ++ Lib.strCells s) w'∧Below B w w'):=by
 obtain ⟨i0,hi,hz0,hz1,hz2⟩:=info_parts info_byte;go_enter Tryz.func30,Tryz.ntmps30
 go_wp2_with (go_at_call 61; refine (copyCheck_any B b bs _ h).mono ?_)
 rintro e w1 ⟨rfl,h1,hb1⟩;obtain ⟨hB,v,hbk,hown,hne⟩:=h1;have c0:w1.cell? ⟨b,0,none⟩=some (.pointer (some ⟨b,0,none⟩)):=by rw [Lib.cell_of_heap hbk]; rfl
 have c1:w1.cell? ⟨b,1,none⟩=some v:=by rw [Lib.cell_of_heap hbk]; rfl
 go_wp2_with (at_builtin; refine Lib.wpList_append_own_string _ rfl _ _ 72 9 rfl B 5 i0 Tryz.underlying72 Tryz.underlying9 hi hz0 hz1 hz2 _ _ _ rfl hown s rfl ?c3 ?c4 ?c5 ?_)
 case c3=>unfold maxLen; omega
 case c4=>omega
 case c5=>have:=hb1.size; omega
 intro v' w2 hown' hgrow _
 have hlt:b<w1.heap.size:=by
  rcases Nat.lt_or_ge b w1.heap.size with h' | h'
  · exact h'
  · simp [Array.getElem?_eq_none h'] at hbk
 have hb2:w2.heap[b]? = some (.cells #[.pointer (some ⟨b,0,none⟩),v] 74 (0,0)):=by
  rw [hgrow.block b hlt (fun e=>hne e.symm)];exact hbk
 have d0:w2.cell? ⟨b,0,none⟩=some (.pointer (some ⟨b,0,none⟩)):=by rw [Lib.cell_of_heap hb2]; rfl
 have d1:w2.cell? ⟨b,1,none⟩=some v:=by rw [Lib.cell_of_heap hb2]; rfl
 have f1:w2.frozen? ⟨b,1,none⟩=false:=Lib.frozen_of_heap hb2 1
 obtain ⟨ao,n',cap,rfl⟩ : ∃ ao n' cap,v' = .slice ao n' cap:=by
  rcases hown'.2 with ⟨hv,_⟩ | ⟨g,cap,cur,hv,_⟩
  · exact ⟨_,_,_,hv⟩
  · exact ⟨_,_,_,hv⟩
 go_wp2
 go_ret2
 refine ⟨rfl,?_,?_⟩
 · exact Lib.BuilderAt.put (T:=74) (e:=5) hB hb2 (bs':=bs ++ Lib.strCells s) (by simpa [Lib.strCells_length] using hown') (by decide)
 · exact (hb1.grown hgrow (by have:=hb1.size; omega) (fun k hk=>(hown.lt k hk).1)).setCell (p:=⟨b,1,none⟩) hB _
end Go.Proofs.YtecffghcpknmjaaGreatDoor
