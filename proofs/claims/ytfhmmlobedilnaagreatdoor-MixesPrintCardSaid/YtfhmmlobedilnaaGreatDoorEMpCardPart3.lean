/-
  A part of the proof of the claim: walks over the program's functions and the plain laws that these need. No condition of its own.
-/
import Derived.Test.YtfhmmlobedilnaaGreatDoorEMpCardPart2
import Derived.Test.YtfhmmlobedilnaaGreatDoorFvPart12
import Derived.Shelf.Strconv.AtoiAll
import Derived.Shelf.Strings.Shaped
import Derived.Test.YtfhmmlobedilnaaGreatDoorEMpCardPart1
import Derived.Test.YtfhmmlobedilnaaGreatDoorFvPart10
set_option linter.unusedSimpArgs false
set_option linter.unusedVariables false
set_option maxRecDepth 8000
set_option linter.unnecessarySimpa false
/- strconv.Atoi at every text, by the contracts of the shelf. -/
namespace Go.Proofs
open Go.Shelf
def Tryz.zF:Go.Shelf.Ren:=⟨fun|172=>23|244=>35|245=>36|247=>54|279=>55|280=>56|281=>57|282=>58|287=>79|316=>80|171=>18|205=>81|321=>97|322=>98|243=>31|246=>48|283=>69|284=>70|285=>71|286=>72|129=>92|317=>91|318=>93|319=>94|320=>95|337=>110|338=>111|n=>n,fun|9=>9|3=>3|75=>45|76=>46|4=>4|5=>5|167=>95|37=>41|0=>0|85=>96|2=>2|168=>98|53=>121|175=>129|46=>127|210=>132|127=>77|145=>159|143=>157|21=>21|171=>120|173=>124|212=>150|51=>63|20=>20|213=>151|232=>179|233=>180|80=>50|n=>n,fun|15=>1|16=>2|17=>3|18=>6|19=>7|n=>n⟩
theorem Tryz.laysC172:Go.Proofs.LaysC.n172 Tryz.prog Tryz.zF:={
 mixed:=by kernel_rfl
 f129:=Tryz.func92.trans (congrArg some (by kernel_rfl))
 f171:=Tryz.func18.trans (congrArg some (by kernel_rfl))
 f172:=Tryz.func23.trans (congrArg some (by kernel_rfl))
 f205:=Tryz.func81.trans (congrArg some (by kernel_rfl))
 f243:=Tryz.func31.trans (congrArg some (by kernel_rfl))
 f244:=Tryz.func35.trans (congrArg some (by kernel_rfl))
 f245:=Tryz.func36.trans (congrArg some (by kernel_rfl))
 f246:=Tryz.func48.trans (congrArg some (by kernel_rfl))
 f247:=Tryz.func54.trans (congrArg some (by kernel_rfl))
 f279:=Tryz.func55.trans (congrArg some (by kernel_rfl))
 f280:=Tryz.func56.trans (congrArg some (by kernel_rfl))
 f281:=Tryz.func57.trans (congrArg some (by kernel_rfl))
 f282:=Tryz.func58.trans (congrArg some (by kernel_rfl))
 f283:=Tryz.func69.trans (congrArg some (by kernel_rfl))
 f284:=Tryz.func70.trans (congrArg some (by kernel_rfl))
 f285:=Tryz.func71.trans (congrArg some (by kernel_rfl))
 f286:=Tryz.func72.trans (congrArg some (by kernel_rfl))
 f287:=Tryz.func79.trans (congrArg some (by kernel_rfl))
 f316:=Tryz.func80.trans (congrArg some (by kernel_rfl))
 f317:=Tryz.func91.trans (congrArg some (by kernel_rfl))
 f318:=Tryz.func93.trans (congrArg some (by kernel_rfl))
 f319:=Tryz.func94.trans (congrArg some (by kernel_rfl))
 f320:=Tryz.func95.trans (congrArg some (by kernel_rfl))
 f321:=Tryz.func97.trans (congrArg some (by kernel_rfl))
 f322:=Tryz.func98.trans (congrArg some (by kernel_rfl))
 f337:=Tryz.func110.trans (congrArg some (by kernel_rfl))
 f338:=Tryz.func111.trans (congrArg some (by kernel_rfl))
 t0:=Tryz.underlying0
 a0:=Tryz.isAgg0
 z0:=Tryz.sizeOf0
 v0:=Tryz.zeroValue0
 t2:=Tryz.underlying2
 a2:=Tryz.isAgg2
 z2:=Tryz.sizeOf2
 v2:=Tryz.zeroValue2
 t3:=Tryz.underlying3
 a3:=Tryz.isAgg3
 z3:=Tryz.sizeOf3
 v3:=Tryz.zeroValue3
 t4:=Tryz.underlying4
 a4:=Tryz.isAgg4
 z4:=Tryz.sizeOf4
 v4:=Tryz.zeroValue4
 t5:=Tryz.underlying5
 a5:=Tryz.isAgg5
 z5:=Tryz.sizeOf5
 v5:=Tryz.zeroValue5
 t9:=Tryz.underlying9
 a9:=Tryz.isAgg9
 z9:=Tryz.sizeOf9
 v9:=Tryz.zeroValue9
 t20:=Tryz.underlying20
 a20:=Tryz.isAgg20
 z20:=Tryz.sizeOf20
 v20:=Tryz.zeroValue20
 t21:=Tryz.underlying21
 a21:=Tryz.isAgg21
 z21:=Tryz.sizeOf21
 v21:=Tryz.zeroValue21
 t37:=Tryz.underlying41
 a37:=Tryz.isAgg41
 z37:=Tryz.sizeOf41
 v37:=Tryz.zeroValue41
 t46:=Tryz.underlying127
 a46:=Tryz.isAgg127
 z46:=Tryz.sizeOf127
 v46:=Tryz.zeroValue127
 t51:=Tryz.underlying63
 a51:=Tryz.isAgg63
 z51:=Tryz.sizeOf63
 v51:=Tryz.zeroValue63
 t53:=Tryz.underlying121
 a53:=Tryz.isAgg121
 z53:=Tryz.sizeOf121
 v53:=Tryz.zeroValue121
 t75:=Tryz.underlying45
 a75:=Tryz.isAgg45
 z75:=Tryz.sizeOf45
 v75:=Tryz.zeroValue45
 t76:=Tryz.underlying46
 a76:=Tryz.isAgg46
 z76:=Tryz.sizeOf46
 v76:=Tryz.zeroValue46
 t85:=Tryz.underlying96
 a85:=Tryz.isAgg96
 z85:=Tryz.sizeOf96
 v85:=Tryz.zeroValue96
 t127:=Tryz.underlying77
 a127:=Tryz.isAgg77
 z127:=Tryz.sizeOf77
 v127:=Tryz.zeroValue77
 t143:=Tryz.underlying157
 a143:=Tryz.isAgg157
 z143:=Tryz.sizeOf157
 v143:=Tryz.zeroValue157
 t145:=Tryz.underlying159
 a145:=Tryz.isAgg159
 z145:=Tryz.sizeOf159
 v145:=Tryz.zeroValue159
 t167:=Tryz.underlying95
 a167:=Tryz.isAgg95
 z167:=Tryz.sizeOf95
 v167:=Tryz.zeroValue95
 t168:=Tryz.underlying98
 a168:=Tryz.isAgg98
 z168:=Tryz.sizeOf98
 v168:=Tryz.zeroValue98
 t171:=Tryz.underlying120
 a171:=Tryz.isAgg120
 z171:=Tryz.sizeOf120
 v171:=Tryz.zeroValue120
 t173:=Tryz.underlying124
 a173:=Tryz.isAgg124
 z173:=Tryz.sizeOf124
 v173:=Tryz.zeroValue124
 t175:=Tryz.underlying129
 a175:=Tryz.isAgg129
 z175:=Tryz.sizeOf129
 v175:=Tryz.zeroValue129
 t210:=Tryz.underlying132
 a210:=Tryz.isAgg132
 z210:=Tryz.sizeOf132
 v210:=Tryz.zeroValue132
 t212:=Tryz.underlying150
 a212:=Tryz.isAgg150
 z212:=Tryz.sizeOf150
 v212:=Tryz.zeroValue150
 t213:=Tryz.underlying151
 a213:=Tryz.isAgg151
 z213:=Tryz.sizeOf151
 t232:=Tryz.underlying179
 a232:=Tryz.isAgg179
 z232:=Tryz.sizeOf179
 v232:=Tryz.zeroValue179
 t233:=Tryz.underlying180
 a233:=Tryz.isAgg180
 z233:=Tryz.sizeOf180
 v233:=Tryz.zeroValue180
 g15:=by kernel_rfl
 g16:=by kernel_rfl
 g17:=by kernel_rfl
 g18:=by kernel_rfl
 g19:=by kernel_rfl
 t80:=Tryz.underlying50
 a80:=Tryz.isAgg50
 z80:=Tryz.sizeOf50
 v80:=Tryz.zeroValue50
 i0:=by kernel_rfl
 i2:=by kernel_rfl
 i3:=by kernel_rfl
 i4:=by kernel_rfl
 i5:=by kernel_rfl
 i9:=by kernel_rfl
 i20:=by kernel_rfl
 i21:=by kernel_rfl
 i37:=by kernel_rfl
 i46:=by kernel_rfl
 i51:=by kernel_rfl
 i53:=by kernel_rfl
 i75:=by kernel_rfl
 i76:=by kernel_rfl
 i80:=by kernel_rfl
 i85:=by kernel_rfl
 i127:=by kernel_rfl
 i143:=by kernel_rfl
 i145:=by kernel_rfl
 i167:=by kernel_rfl
 i168:=by kernel_rfl
 i171:=by kernel_rfl
 i173:=by kernel_rfl
 i175:=by kernel_rfl
 i210:=by kernel_rfl
 i212:=by kernel_rfl
 i232:=by kernel_rfl
 i233:=by kernel_rfl
 m15:=by kernel_rfl
 m16:=by kernel_rfl
 m17:=by kernel_rfl
 m18:=by kernel_rfl
 m19:=by kernel_rfl
 c0:=by kernel_rfl
 c2:=by kernel_rfl
 c3:=by kernel_rfl
 c4:=by kernel_rfl
 c5:=by kernel_rfl
 c9:=by kernel_rfl
 c20:=by kernel_rfl
 c21:=by kernel_rfl
 c37:=by kernel_rfl
 c46:=by kernel_rfl
 c51:=by kernel_rfl
 c53:=by kernel_rfl
 c75:=by kernel_rfl
 c76:=by kernel_rfl
 c80:=by kernel_rfl
 c85:=by kernel_rfl
 c127:=by kernel_rfl
 c143:=by kernel_rfl
 c145:=by kernel_rfl
 c167:=by kernel_rfl
 c168:=by kernel_rfl
 c171:=by kernel_rfl
 c173:=by kernel_rfl
 c175:=by kernel_rfl
 c210:=by kernel_rfl
 c212:=by kernel_rfl
 c213:=by kernel_rfl
 c232:=by kernel_rfl
 c233:=by kernel_rfl }
end Go.Proofs
namespace Go.Fv.E
open Go Go.Proofs Go.RowKit
theorem BJ {P:Program} {w:World} {g:Nat} (hw:lH P w) (hg:IC P g=some .err):∃ (tp:TypeId) (p:Value),w.cell? ⟨g,0,none⟩=some (.iface tp p):=by
 obtain ⟨ob,hh,t,tp,p,rfl⟩:=hw g _ hg
 exact ⟨tp,p,by simp [World.cell?,hh]⟩
def ET (s:Bytes):Int:=match Lib.atoiAll s with | .ok v=>v | .syntax=>0 | .range=>Lib.atoiSat s
def LZ (s:Bytes):AV:=match Lib.atoiAll s with | .ok _=>.raw .nilIface|_=>.ifc 98 .dead
theorem oL (s:Bytes):-9223372036854775808≤ET s∧ET s≤9223372036854775807:=by
 unfold ET
 split
 ·rename_i v h;exact Lib.atoiAll_bounds h
 ·omega
 ·exact Lib.atoiSat_bounds s
theorem EU (s:Bytes) (hs:s.length≤281474976710656):aU Tryz.prog 23 [.str s] (.tup [.int .i64 (ET s),LZ s]) []:=by
 refine ⟨⟨_,Tryz.func23,by kernel_rfl,by kernel_rfl⟩,fun w T vals hg hv=>?_⟩
 cases hv with
 | cons _ _ _ _ h1 hv=>
  cases hv
  cases h1 with
  | str _ e1=>
   have L:=Tryz.laysC172
   have hbd:=oL s
   unfold ET at hbd
   unfold ET LZ
   cases h:Lib.atoiAll s with
   | ok v=>
    rw [h] at hbd
    refine (Any.strconv_Atoi_ok L ⟨s.toArray⟩ (by show s.length≤_;omega) v h w).mono ?_
    rintro e w' ⟨rfl,hw⟩
    have hb:Below w.heap.size w w':=by
     rcases hw with rfl|⟨t,rfl⟩
     ·exact Below.refl _ _
     ·exact Lib.bytesWorld_below _ _ _
    refine ⟨_,rfl,⟨hb.os,hb.tape,hb.output,hb.size,trivial,hb.block⟩,fun _=>undef,0,?_,?_,?_⟩
    ·exact .tup _ _ (.cons _ _ _ _ (.int _ _ (eY.2 hbd)) (.cons _ _ _ _ (.raw _) .nil))
    ·intro i it h;cases h
    ·intro i j it jt b h;cases h
   | «syntax»=>
    rw [h] at hbd
    obtain ⟨tp,p,hp⟩:=BJ hg (g:=1) (by kernel_rfl)
    refine (Any.strconv_Atoi_syntax L ⟨s.toArray⟩ (by show s.length≤_;omega) h _ w hp (.inr ⟨tp,p,rfl⟩)).mono ?_
    rintro e w' ⟨N,rfl,_,_,hb⟩
    refine ⟨_,rfl,⟨hb.os,hb.tape,hb.output,hb.size,trivial,hb.block⟩,fun _=>undef,0,?_,?_,?_⟩
    ·exact .tup _ _ (.cons _ _ _ _ (.int _ _ (eY.2 hbd)) (.cons _ _ _ _ (.ifc _ _ _ (.dead _)) .nil))
    ·intro i it h;cases h
    ·intro i j it jt b h;cases h
   | range=>
    rw [h] at hbd
    obtain ⟨tp,p,hp⟩:=BJ hg (g:=2) (by kernel_rfl)
    refine (Any.strconv_Atoi_range L ⟨s.toArray⟩ (by show s.length≤_;omega) h _ w hp (.inr ⟨tp,p,rfl⟩)).mono ?_
    rintro e w' ⟨N,rfl,_,_,hb⟩
    refine ⟨_,rfl,⟨hb.os,hb.tape,hb.output,hb.size,trivial,hb.block⟩,fun _=>undef,0,?_,?_,?_⟩
    ·exact .tup _ _ (.cons _ _ _ _ (.int _ _ (eY.2 hbd)) (.cons _ _ _ _ (.ifc _ _ _ (.dead _)) .nil))
    ·intro i it h;cases h
    ·intro i j it jt b h;cases h
end Go.Fv.E
/- Where a byte stands, and where ': ' stands. -/
namespace Go.Fv.E
open Go Go.Proofs
theorem D8 (c:UInt8):∀ s:Bytes,Lib.index s [c]=if c∈s then ((fZ c s).length:Int) else -1
 | []=>by simp [Lib.index]
 | x::s=>by
  have ih:=D8 c s
  unfold Lib.index
  rw [H7]
  by_cases h:x=c
  ·subst h;simp
  ·have h2:([c].isPrefixOf (x::s))=false:=by
    simp only [List.isPrefixOf,Bool.and_true]
    simpa using fun e=>h e.symm
   rw [h2,ih]
   have h3:c∈x::s↔c∈s:=by rw [List.mem_cons];exact ⟨fun e=>e.resolve_left fun e=>h e.symm,.inr⟩
   rw [if_neg h]
   by_cases hm:c∈s
   ·rw [if_pos hm,if_pos (h3.2 hm)]
    simp only [Bool.false_eq_true,if_false]
    rw [if_neg (by simp<;>omega),List.length_cons];rfl
   ·rw [if_neg hm,if_neg (fun e=>hm (h3.1 e))]
    simp
theorem Dl (c:UInt8) (s:Bytes):s.take (fZ c s).length=fZ c s:=by
 conv=>lhs;rw [←eF c s]
 exact List.take_left' (by rw [eF])
theorem BF (c:UInt8) (s:Bytes):s.drop (fZ c s).length=lD c s:=by
 conv=>lhs;rw [←eF c s]
 exact List.drop_left' (by rw [eF])
theorem Ik {c x:UInt8} {s t:Bytes} (h:lD c s=x::t):s.drop ((fZ c s).length+1)=t:=by
 rw [←List.drop_drop,BF,h];rfl
end Go.Fv.E
/- strings.Index, strings.Count, by the contracts of the shelf. -/
namespace Go.Proofs
open Go.Shelf
def Tryz.sS:Go.Shelf.Ren:=⟨fun|143=>52|219=>49|217=>53|225=>73|224=>74|267=>75|266=>78|314=>96|n=>n,fun|9=>9|3=>3|4=>4|5=>5|46=>127|146=>154|51=>63|n=>n,fun|1=>0|n=>n⟩
theorem Tryz.lays143:Go.Proofs.LaysM.n143 Tryz.prog Tryz.sS:={
 mixed:=by kernel_rfl
 f143:=Tryz.func52.trans (congrArg some (by kernel_rfl))
 f217:=Tryz.func53.trans (congrArg some (by kernel_rfl))
 f219:=Tryz.func49.trans (congrArg some (by kernel_rfl))
 f224:=Tryz.func74.trans (congrArg some (by kernel_rfl))
 f225:=Tryz.func73.trans (congrArg some (by kernel_rfl))
 f266:=Tryz.func78.trans (congrArg some (by kernel_rfl))
 f267:=Tryz.func75.trans (congrArg some (by kernel_rfl))
 f314:=Tryz.func96.trans (congrArg some (by kernel_rfl))
 t3:=Tryz.underlying3
 a3:=Tryz.isAgg3
 z3:=Tryz.sizeOf3
 v3:=Tryz.zeroValue3
 t4:=Tryz.underlying4
 a4:=Tryz.isAgg4
 z4:=Tryz.sizeOf4
 v4:=Tryz.zeroValue4
 t5:=Tryz.underlying5
 a5:=Tryz.isAgg5
 z5:=Tryz.sizeOf5
 v5:=Tryz.zeroValue5
 t9:=Tryz.underlying9
 a9:=Tryz.isAgg9
 z9:=Tryz.sizeOf9
 v9:=Tryz.zeroValue9
 t46:=Tryz.underlying127
 a46:=Tryz.isAgg127
 z46:=Tryz.sizeOf127
 v46:=Tryz.zeroValue127
 t51:=Tryz.underlying63
 a51:=Tryz.isAgg63
 z51:=Tryz.sizeOf63
 v51:=Tryz.zeroValue63
 t146:=Tryz.underlying154
 a146:=Tryz.isAgg154
 z146:=Tryz.sizeOf154
 v146:=Tryz.zeroValue154
 g1:=by kernel_rfl
 i3:=by kernel_rfl
 i4:=by kernel_rfl
 i5:=by kernel_rfl
 i9:=by kernel_rfl
 i46:=by kernel_rfl
 i51:=by kernel_rfl
 i146:=by kernel_rfl
 m1:=by kernel_rfl
 s1_3:=fun w h=>Go.Proofs.cell_of_shapedOpen_int (zero:=#[.int .i64 0]) (t:=3) h (of_decide_eq_true (by kernel_rfl)) (by kernel_rfl) rfl (by kernel_rfl) (by kernel_rfl) Tryz.underlying3 }
def Tryz.BQ:Go.Shelf.Ren:=⟨fun|138=>51|195=>76|218=>77|143=>52|219=>49|217=>53|225=>73|224=>74|267=>75|266=>78|314=>96|n=>n,fun|9=>9|3=>3|4=>4|5=>5|0=>0|46=>127|146=>154|51=>63|n=>n,fun|1=>0|n=>n⟩
theorem Tryz.lays138:Go.Proofs.LaysM.n138 Tryz.prog Tryz.BQ:={
 mixed:=by kernel_rfl
 f138:=Tryz.func51.trans (congrArg some (by kernel_rfl))
 f143:=Tryz.func52.trans (congrArg some (by kernel_rfl))
 f195:=Tryz.func76.trans (congrArg some (by kernel_rfl))
 f217:=Tryz.func53.trans (congrArg some (by kernel_rfl))
 f218:=Tryz.func77.trans (congrArg some (by kernel_rfl))
 f219:=Tryz.func49.trans (congrArg some (by kernel_rfl))
 f224:=Tryz.func74.trans (congrArg some (by kernel_rfl))
 f225:=Tryz.func73.trans (congrArg some (by kernel_rfl))
 f266:=Tryz.func78.trans (congrArg some (by kernel_rfl))
 f267:=Tryz.func75.trans (congrArg some (by kernel_rfl))
 f314:=Tryz.func96.trans (congrArg some (by kernel_rfl))
 t0:=Tryz.underlying0
 a0:=Tryz.isAgg0
 z0:=Tryz.sizeOf0
 v0:=Tryz.zeroValue0
 t3:=Tryz.underlying3
 a3:=Tryz.isAgg3
 z3:=Tryz.sizeOf3
 v3:=Tryz.zeroValue3
 t4:=Tryz.underlying4
 a4:=Tryz.isAgg4
 z4:=Tryz.sizeOf4
 v4:=Tryz.zeroValue4
 t5:=Tryz.underlying5
 a5:=Tryz.isAgg5
 z5:=Tryz.sizeOf5
 v5:=Tryz.zeroValue5
 t9:=Tryz.underlying9
 a9:=Tryz.isAgg9
 z9:=Tryz.sizeOf9
 v9:=Tryz.zeroValue9
 t46:=Tryz.underlying127
 a46:=Tryz.isAgg127
 z46:=Tryz.sizeOf127
 v46:=Tryz.zeroValue127
 t51:=Tryz.underlying63
 a51:=Tryz.isAgg63
 z51:=Tryz.sizeOf63
 v51:=Tryz.zeroValue63
 t146:=Tryz.underlying154
 a146:=Tryz.isAgg154
 z146:=Tryz.sizeOf154
 v146:=Tryz.zeroValue154
 g1:=by kernel_rfl
 i0:=by kernel_rfl
 i3:=by kernel_rfl
 i4:=by kernel_rfl
 i5:=by kernel_rfl
 i9:=by kernel_rfl
 i46:=by kernel_rfl
 i51:=by kernel_rfl
 i146:=by kernel_rfl
 m1:=by kernel_rfl
 s1_3:=fun w h=>Go.Proofs.cell_of_shapedOpen_int (zero:=#[.int .i64 0]) (t:=3) h (of_decide_eq_true (by kernel_rfl)) (by kernel_rfl) rfl (by kernel_rfl) (by kernel_rfl) Tryz.underlying3 }
end Go.Proofs
namespace Go.Fv.E
open Go Go.Proofs
theorem IE (s t:List UInt8) (hs:s.length≤100000000):aU Tryz.prog 52 [.str s,.str t] (.int .i64 (Lib.index s t)) []:=by
 refine ⟨⟨_,Tryz.func52,by kernel_rfl,by kernel_rfl⟩,fun w T vals hg hv=>?_⟩
 obtain ⟨m,t0,_,hm⟩:=hg.int (g:=0) (k:=.i64) (by kernel_rfl)
 cases hv with
 | cons _ _ _ _ h1 hv=>cases hv with
  | cons _ _ _ _ h2 hv=>
   cases hv
   cases h1 with
   | str _ e1=>cases h2 with
    | str _ e2=>
     have L:=Tryz.lays143
     refine (Any.strings_Index { L with } ⟨s.toArray⟩ ⟨t.toArray⟩ m w ?_ ?_).mono ?_
     ·show s.toArray.size<4294967281
      simp;omega
     ·simp [World.cell?,Tryz.sS,hm]
     ·rintro e w' ⟨rfl,rfl⟩
      refine ⟨_,rfl,gy.refl _ _,fun _=>undef,0,?_,?_,?_⟩
      ·have h1:=Lib.index_ge s t
       have h2:=Lib.index_le s t
       have e1:IntKind.i64.min=-9223372036854775808:=by decide
       have e2:IntKind.i64.max=9223372036854775807:=by decide
       exact .int .i64 _ ⟨by rw [e1];omega,by rw [e2];omega⟩
      ·intro i it h;cases h
      ·intro i j it jt b h;cases h
theorem Ie (s:List UInt8) (c:UInt8):aU Tryz.prog 51 [.str s,.str [c]] (.int .i64 ((s.count c:Nat):Int)) []:=by
 refine ⟨⟨_,Tryz.func51,by kernel_rfl,by kernel_rfl⟩,fun w T vals hg hv=>?_⟩
 cases hv with
 | cons _ _ _ _ h1 hv=>cases hv with
  | cons _ _ _ _ h2 hv=>
   cases hv
   cases h1 with
   | str _ e1=>cases h2 with
    | str _ e2=>
     have L:=Tryz.lays138
     refine (Any.strings_Count_one { L with } ⟨s.toArray⟩ c w).mono ?_
     rintro e w' ⟨rfl,rfl⟩
     refine ⟨_,rfl,gy.refl _ _,fun _=>undef,0,?_,?_,?_⟩
     ·have h1:s.count c≤s.length:=List.count_le_length
      have h3:s.length≤9223372036854775807:=e1
      have e1:IntKind.i64.min=-9223372036854775808:=by decide
      have e2:IntKind.i64.max=9223372036854775807:=by decide
      exact .int .i64 _ ⟨by rw [e1];omega,by rw [e2];omega⟩
     ·intro i it h;cases h
     ·intro i j it jt b h;cases h
end Go.Fv.E
/- strings.Cut, Contains, HasPrefix, CutPrefix; slices.Contains of texts. -/
namespace Go.Proofs
open Go.Shelf
def Tryz.sU:Go.Shelf.Ren:=⟨fun|219=>49|217=>53|225=>73|224=>74|267=>75|266=>78|314=>96|n=>n,fun|9=>9|3=>3|4=>4|5=>5|46=>127|146=>154|51=>63|n=>n,fun|1=>0|n=>n⟩
theorem Tryz.lays219:Go.Proofs.LaysM.n219 Tryz.prog Tryz.sU:={
 mixed:=by kernel_rfl
 f217:=Tryz.func53.trans (congrArg some (by kernel_rfl))
 f219:=Tryz.func49.trans (congrArg some (by kernel_rfl))
 f224:=Tryz.func74.trans (congrArg some (by kernel_rfl))
 f225:=Tryz.func73.trans (congrArg some (by kernel_rfl))
 f266:=Tryz.func78.trans (congrArg some (by kernel_rfl))
 f267:=Tryz.func75.trans (congrArg some (by kernel_rfl))
 f314:=Tryz.func96.trans (congrArg some (by kernel_rfl))
 t3:=Tryz.underlying3
 a3:=Tryz.isAgg3
 z3:=Tryz.sizeOf3
 v3:=Tryz.zeroValue3
 t4:=Tryz.underlying4
 a4:=Tryz.isAgg4
 z4:=Tryz.sizeOf4
 v4:=Tryz.zeroValue4
 t5:=Tryz.underlying5
 a5:=Tryz.isAgg5
 z5:=Tryz.sizeOf5
 v5:=Tryz.zeroValue5
 t9:=Tryz.underlying9
 a9:=Tryz.isAgg9
 z9:=Tryz.sizeOf9
 v9:=Tryz.zeroValue9
 t46:=Tryz.underlying127
 a46:=Tryz.isAgg127
 z46:=Tryz.sizeOf127
 v46:=Tryz.zeroValue127
 t51:=Tryz.underlying63
 a51:=Tryz.isAgg63
 z51:=Tryz.sizeOf63
 v51:=Tryz.zeroValue63
 t146:=Tryz.underlying154
 a146:=Tryz.isAgg154
 z146:=Tryz.sizeOf154
 v146:=Tryz.zeroValue154
 g1:=by kernel_rfl
 i3:=by kernel_rfl
 i4:=by kernel_rfl
 i5:=by kernel_rfl
 i9:=by kernel_rfl
 i46:=by kernel_rfl
 i51:=by kernel_rfl
 i146:=by kernel_rfl
 m1:=by kernel_rfl
 s1_3:=fun w h=>Go.Proofs.cell_of_shapedOpen_int (zero:=#[.int .i64 0]) (t:=3) h (of_decide_eq_true (by kernel_rfl)) (by kernel_rfl) rfl (by kernel_rfl) (by kernel_rfl) Tryz.underlying3 }
end Go.Proofs
namespace Go.Fv.E
open Go Go.Proofs
theorem Gq (s t:List UInt8) (hs:s.length≤100000000):aU Tryz.prog 49 [.str s,.str t] (.int .i64 (Lib.index s t)) []:=by
 refine ⟨⟨_,Tryz.func49,by kernel_rfl,by kernel_rfl⟩,fun w T vals hg hv=>?_⟩
 obtain ⟨m,t0,_,hm⟩:=hg.int (g:=0) (k:=.i64) (by kernel_rfl)
 cases hv with
 | cons _ _ _ _ h1 hv=>cases hv with
  | cons _ _ _ _ h2 hv=>
   cases hv
   cases h1 with
   | str _ e1=>cases h2 with
    | str _ e2=>
     have L:=Tryz.lays219
     refine (Any.stringslite_Index { L with } ⟨s.toArray⟩ ⟨t.toArray⟩ m w ?_ ?_).mono ?_
     ·show s.toArray.size<4294967281
      simp;omega
     ·simp [World.cell?,Tryz.sU,hm]
     ·rintro e w' ⟨rfl,rfl⟩
      refine ⟨_,rfl,gy.refl _ _,fun _=>undef,0,?_,?_,?_⟩
      ·have h1:=Lib.index_ge s t
       have h2:=Lib.index_le s t
       have e1:IntKind.i64.min=-9223372036854775808:=by decide
       have e2:IntKind.i64.max=9223372036854775807:=by decide
       exact .int .i64 _ ⟨by rw [e1];omega,by rw [e2];omega⟩
      ·intro i it h;cases h
      ·intro i j it jt b h;cases h
theorem yH:∀ s t:Bytes,0≤Lib.index s t→Lib.index s t+t.length≤s.length
 | [],t,h=>by
  unfold Lib.index at h ⊢
  split at h
  ·rename_i e
   have:t=[]:=by simpa using e
   subst this;simp
  ·exact absurd h (by decide)
 | b::l,t,h=>by
  have ih:=yH l t
  unfold Lib.index at h ⊢
  split
  ·rename_i e
   have:=(List.isPrefixOf_iff_prefix.1 e).length_le
   omega
  ·rename_i e
   rw [if_neg e] at h
   split at h
   ·exact absurd h (by decide)
   ·rename_i e2
    rw [if_neg e2]
    have h3:Lib.index l t≠-1:=by simpa using e2
    have:=Lib.index_ge l t
    have:=ih (by omega)
    rw [List.length_cons];omega
set_option maxHeartbeats 1000000 in
theorem J9 (s t:Bytes) (hs:s.length≤100000000) (ht:t.length≤100):aU Tryz.prog 20 [.str s,.str t]
  (.tup [.str (if 0≤Lib.index s t then s.take (Lib.index s t).toNat else s),.str (if 0≤Lib.index s t then s.drop ((Lib.index s t).toNat+t.length) else []),.bool (decide (0≤Lib.index s t))]) []:=by
 have k:=Gq s t hs
 have h2:=Lib.index_le s t
 have kc:aU Tryz.prog 32 [.str s,.str t]
  (.tup [.str (if 0≤Lib.index s t then s.take (Lib.index s t).toNat else s),.str (if 0≤Lib.index s t then s.drop ((Lib.index s t).toNat+t.length) else []),.bool (decide (0≤Lib.index s t))]) []:=by
  refine aU.bT Tryz.func32 rfl (by decide) (by simp [Tryz.f32]) [.tmp 4,.tmp 5,.tmp 6] rfl fun w0 T0 _=>?_
  simp only [Tryz.f32,aI]
  have hfit:=yH s t
  generalize Lib.index s t=q at *
  (repeat' with_reducible first|intro _|exact dn|refine rn ?_|refine ra ?_ ?_)
  refine ah.k k ?_
  by_cases h:0≤q
  ·have g:(0≤q)=True:=eq_true h
   obtain ⟨n,rfl⟩:∃ n:Nat,q=n:=⟨q.toNat,by omega⟩
   rw [if_pos h,if_pos h,decide_eq_true h,Int.toNat_natCast]
   have hf:=hfit (by omega)
   have g2:((n:Int)≤(s.length:Int))=True:=eq_true (by omega)
   have e1:((n:Int)+(t.length:Int))=((n+t.length:Nat):Int):=by omega
   have g3:(((n+t.length:Nat):Int)≤(s.length:Int))=True:=eq_true (by omega)
   have e2:(s.drop (n+t.length)).take (s.length - (n+t.length))=s.drop (n+t.length):=List.take_of_length_le (by rw [List.length_drop];exact Nat.le_refl _)
   (repeat' with_reducible first|intro _|exact dn|refine rn ?_|refine ra ?_ ?_)
   refine aZ.lex [] [] (by kernel_rfl) (by kernel_rfl) ?_
   (repeat' with_reducible first|intro _|refine rz ?_|refine ra ?_ ?_|omega|simp only [go_sem,g2,e1,g3,e2,Nat.sub_zero])
   refine dJ.auto 0 ?_ rfl ?_<;>simp only [go_sem,Int.natCast_succ,Post]
  ·have g:(0≤q)=False:=eq_false h
   rw [if_neg h,if_neg h,decide_eq_false h]
   (repeat' with_reducible first|intro _|refine rz ?_|refine ra ?_ ?_|omega|simp only [go_sem,g])
   refine dJ.auto 0 ?_ rfl ?_<;>simp only [go_sem,Int.natCast_succ,Post]
 refine aU.bT Tryz.func20 rfl (by decide) (by simp [Tryz.f20]) [.tmp 4,.tmp 5,.tmp 6] rfl fun w0 T0 _=>?_
 simp only [Tryz.f20,aI]
 (repeat' with_reducible first|intro _|exact dn|refine rn ?_|refine ra ?_ ?_)
 refine ah.k kc ?_
 (repeat' with_reducible first|intro _|exact dn|refine rn ?_|refine ra ?_ ?_)
 refine dJ.auto 0 ?_ rfl ?_<;>simp only [go_sem,Int.natCast_succ,Post]
end Go.Fv.E
/- Small functions on texts, at the separators that rules have. -/
namespace Go.Fv.E
open Go Go.Proofs
theorem J8 (s:Bytes) (c:UInt8) (hs:s.length≤100000000):aU Tryz.prog 20 [.str s,.str [c]] (.tup [.str (fZ c s),.str ((lD c s).drop 1),.bool (decide (c∈s))]) []:=by
 have k:=J9 s [c] hs (by simp)
 rw [D8] at k
 by_cases h:c∈s
 ·rw [if_pos h] at k
  rw [if_pos (by omega),if_pos (by omega),Int.toNat_natCast,Dl,decide_eq_true (by omega:(0:Int)≤((fZ c s).length:Int))] at k
  rw [decide_eq_true h,←BF,List.drop_drop]
  exact k
 ·rw [if_neg h,if_neg (by omega),if_neg (by omega),decide_eq_false (by omega)] at k
  obtain ⟨h1,h2⟩:=zn h
  rw [decide_eq_false h,h1,h2]
  exact k
end Go.Fv.E
/- strings.Split at a byte. -/
namespace Go.Fv.E
open Go Go.Proofs
theorem FW (pre:List Bytes) (k:Nat) (x:Bytes):(pre++List.replicate (k+1) []).set pre.length x=(pre++[x])++List.replicate k []:=by
 rw [List.set_append_right _ _ (Nat.le_refl _),Nat.sub_self,List.replicate_succ,List.set_cons_zero,List.append_assoc];rfl
set_option maxHeartbeats 2000000 in
theorem nM (s0:Bytes) (c:UInt8) (hs:s0.length≤2000000):aU Tryz.prog 21 [.str s0,.str [c]] (.own 0) [(0,.row 9 (.strs (nX c s0)))]:=by
 have kc:=Ie s0 c
 have hcl:s0.count c≤s0.length:=List.count_le_length
 have kg:aU Tryz.prog 33 [.str s0,.str [c],.int .i64 0,.int .i64 (-1)] (.own 0) [(0,.row 9 (.strs (nX c s0)))]:=by
  refine aU.bT Tryz.func33 rfl (by decide) (by simp [Tryz.f33]) [.tmp 8] rfl fun w0 T0 _=>?_
  simp only [Tryz.f33,aI]
  unfold nX
  generalize hN:s0.count c=N at *
  have hm:min ((N:Int)+1) ((s0.length:Int)+1)=((N+1:Nat):Int):=by omega
  (repeat' with_reducible first|intro _|exact dn|refine rn ?_|refine ra ?_ ?_)
  refine ah.k kc ?_
  (repeat' with_reducible first|intro _|refine rz ?_|refine ra ?_ ?_|omega|simp only [go_sem,hm])
  refine bM.intro (fun x:Nat × Bytes × List Bytes=>⟨66,[(10,.int .i64 x.1),(3,.int .i64 N),(9,.own 0),(0,.str x.2.1),(1,.str [c]),(2,.int .i64 0)],[(0,.row 9 (.strs (x.2.2++List.replicate (N+1 - x.1) [])))],1⟩) (fun x=>x.1≤N∧x.2.2.length=x.1∧x.2.1.count c=N - x.1∧x.2.1.length≤2000000∧x.2.2++rM c (N - x.1) x.2.1=rM c N s0) (fun x=>N - x.1) (0,s0,[]) ?_ ⟨Nat.zero_le _,rfl,by simpa using hN,hs,rfl⟩ fun x hI=>?_
  ·refine dB.bJ rfl ?_ ?_<;>simp only [go_sem,Int.natCast_succ]
   all_goals omega
  obtain ⟨i,s,pre⟩:=x
  obtain ⟨h1,h2,h3,h4,h5⟩:=hI
  dsimp only at *
  subst h2
  by_cases hlt:pre.length<N
  ·have f1:((pre.length:Int)<(N:Int))=True:=eq_true (by omega)
   have ki:=IE s [c] (by omega)
   obtain ⟨u,hu⟩:=rD (c:=c) (s:=s) (by omega)
   have hmem:c∈s:=(qg c s).2 (by rw [hu];simp)
   rw [D8,if_pos hmem] at ki
   have hbl:=congrArg List.length (eF c s)
   rw [List.length_append,hu,List.length_cons] at hbl
   have htb:=Dl c s
   have hda:=Ik hu
   have hcu:=rC hu
   have f2:(((fZ c s).length:Int)<0)=False:=eq_false (by omega)
   have f3:(((fZ c s).length:Int)+0)=((fZ c s).length:Int):=by omega
   have f4:(((fZ c s).length:Int)+1)=(((fZ c s).length+1:Nat):Int):=by omega
   have f5:(((fZ c s).length:Int)≤(s.length:Int))=True:=eq_true (by omega)
   have f6:((((fZ c s).length+1:Nat):Int)≤(s.length:Int))=True:=eq_true (by omega)
   have f7:u.take (s.length - ((fZ c s).length+1))=u:=List.take_of_length_le (by omega)
   have hst:=FW pre (N - pre.length) (fZ c s)
   rw [show N - pre.length+1=N+1 - pre.length by omega] at hst
   have hnx:rM c (N - pre.length) s=fZ c s::rM c (N - (pre.length+1)) u:=by
    rw [show N - pre.length=(N - (pre.length+1))+1 by omega]
    show fZ c s::rM c _ ((lD c s).drop 1)=_
    rw [hu];rfl
   rw [hnx] at h5
   generalize fZ c s=b at *
   (repeat' with_reducible first|intro _|refine rz ?_|refine ra ?_ ?_|omega|simp only [go_sem,f1])
   refine ah.k ki ?_
   (repeat' with_reducible first|intro _|refine rz ?_|refine ra ?_ ?_|omega|simp only [go_sem,f2,f3,f4,f5,f6,f7,Nat.sub_zero,htb,hda,hst,List.length_replicate])
   refine ⟨(pre.length+1,u,pre++[b]),dB.bJ rfl ?_ ?_,⟨by omega,by simp,by dsimp only;omega,by dsimp only;omega,by dsimp only;rw [←h5];simp⟩,by omega⟩<;>simp only [go_sem,Int.natCast_succ]
  ·have e:pre.length=N:=by omega
   subst e
   have f1:((pre.length:Int)<(pre.length:Int))=False:=eq_false (by omega)
   rw [Nat.sub_self] at h5
   have hst:=FW pre 0 s
   rw [List.replicate_zero,List.append_nil] at hst
   have e1:pre.length+1 - pre.length=0+1:=by omega
   rw [e1]
   (repeat' with_reducible first|intro _|refine rz ?_|refine ra ?_ ?_|omega|simp only [go_sem,f1,hst,List.length_replicate])
   refine dJ.auto 1 ?_ rfl ?_<;>simp only [go_sem,Int.natCast_succ,Post]
   rw [show ((pre.length:Int)+1).toNat=pre.length+1 by omega,Nat.sub_zero,List.take_of_length_le (by simp)]
   exact h5
 refine aU.bT Tryz.func21 rfl (by decide) (by simp [Tryz.f21]) [.tmp 4] rfl fun w0 T0 _=>?_
 simp only [Tryz.f21,aI]
 (repeat' with_reducible first|intro _|exact dn|refine rn ?_|refine ra ?_ ?_)
 refine ah.o kg 1 ?_
 (repeat' with_reducible first|intro _|exact dn|refine rn ?_|refine ra ?_ ?_)
 refine dJ.auto 1 ?_ rfl ?_<;>simp only [go_sem,Int.natCast_succ,Post]
end Go.Fv.E
/- Parse of mixes. -/
namespace Go.Fv.E
open Go Go.Proofs
theorem kR (c:UInt8):∀ (n:Nat) (s w:Bytes),w∈rM c n s→w.length≤s.length
 | 0,s,w,h=>by rw [List.mem_singleton.1 h];exact Nat.le_refl _
 | n+1,s,w,h=>by
  have hb:=congrArg List.length (eF c s)
  rw [List.length_append] at hb
  rcases List.mem_cons.1 h with rfl|h
  ·omega
  ·have:=kR c n _ w h
   rw [List.length_drop] at this;omega
theorem EX (c:UInt8) (s:Bytes):(fZ c s).length≤s.length:=by
 have:=congrArg List.length (eF c s);rw [List.length_append] at this;omega
theorem oQ (z:Bytes):(LZ z=.raw .nilIface∧CJ z=if z.length≤3∧0≤ET z∧Lib.itoa (ET z)=z then some (ET z) else none)∨(LZ z=.ifc 98 .dead∧CJ z=none):=by
 unfold LZ ET CJ
 cases Lib.atoiAll z with
 | ok v=>exact .inl ⟨rfl,rfl⟩
 | «syntax»=>exact .inr ⟨rfl,rfl⟩
 | range=>exact .inr ⟨rfl,rfl⟩
theorem yS {b x y z:Bytes} (h:nX 32 b=[x,y,z]):JK b=if (uz x).2=true∧(uz y).2=true then (CJ z).map fun n=>⟨(uz x).1,(uz y).1,n⟩ else none:=by
 unfold JK;rw [h]
theorem FU {b:Bytes} (h:(nX 32 b).length≠3):JK b=none:=by
 unfold JK
 split
 ·rename_i h2;rw [h2] at h;exact absurd rfl h
 ·rfl
theorem NH {α:Type} {l:List α} (h:l.length=3):∃ x y z,l=[x,y,z]:=by
 match l,h with
 | [x,y,z],_=>exact ⟨x,y,z,rfl⟩
instance:EL Mx.av:=⟨fun _=>rfl⟩
def DJ (x:Bytes × List Mx × Nat):Go.Fv.S:=⟨106,[(0,.str x.1),(5,.own 0),(6,.int .i64 x.2.2)],[(0,.row 35 (aX x.2.1))],1⟩
set_option maxHeartbeats 8000000 in
theorem GN (s0:Bytes):aU Tryz.prog 8 [.str s0] (.tup [.own 0,.int .i64 (yR s0).2.1,.int .i64 (yR s0).2.2]) [(0,.row 35 (aX (yR s0).1))]:=by
 refine aU.bT Tryz.func8 rfl (by decide) (by simp [Tryz.f8]) [.tmp 2,.tmp 3,.tmp 4] rfl fun w0 T0 _=>?_
 simp only [Tryz.f8,aI]
 have hP:yR s0=if 1048576<s0.length then ([],0,4) else
  if (nY (s0.length+1) s0 [] 0).2.2≠0 then nY (s0.length+1) s0 [] 0 else
  if bH (nY (s0.length+1) s0 [] 0).1≠0 then ([],0,bH (nY (s0.length+1) s0 [] 0).1) else ((nY (s0.length+1) s0 [] 0).1,0,0):=rfl
 generalize yR s0=R at *
 by_cases hl:1048576<s0.length
 ·have g1:((1048576:Int)<(s0.length:Int))=True:=eq_true (by omega)
  rw [if_pos hl] at hP
  subst hP
  (repeat' with_reducible first|intro _|refine rz ?_|refine ra ?_ ?_|omega|simp only [go_sem,g1])
  refine dJ.auto 1 ?_ rfl ?_<;>simp only [go_sem,Int.natCast_succ,Post,List.map_nil,aX]
 have g1:((1048576:Int)<(s0.length:Int))=False:=eq_false (by omega)
 rw [if_neg hl] at hP
 (repeat' with_reducible first|intro _|refine rz ?_|refine ra ?_ ?_|omega|simp only [go_sem,g1])
 refine bM.intro DJ (fun x=>x.1.length≤1048576∧x.2.2+x.1.length≤1048576∧x.2.1.length≤x.2.2∧nY (x.1.length+1) x.1 x.2.1 x.2.2=nY (s0.length+1) s0 [] 0) (fun x=>x.1.length) (s0,[],0) ?_ ⟨by dsimp only;omega,by dsimp only;omega,Nat.le_refl _,rfl⟩ fun x hI=>?_
 ·refine dB.bJ rfl ?_ ?_<;>simp only [go_sem,Int.natCast_succ,DJ,List.map_nil,aX]
 obtain ⟨s,acc,i⟩:=x
 dsimp only at hI
 obtain ⟨h1,h2,h3,h5⟩:=hI
 generalize nY (s0.length+1) s0 [] 0=E at *
 by_cases hs:s=[]
 ·have g2:(s=[])=True:=eq_true hs
  rw [hs] at h5
  have hE:E=(acc,0,0):=h5.symm
  rw [hE] at hP
  rw [if_neg (by simp)] at hP
  have kc:=og acc
  unfold aX at kc
  by_cases he:bH acc=0
  ·rw [he,if_neg (by decide)] at hP
   rw [he] at kc
   subst hP
   dsimp only [DJ,aX]
   (repeat' with_reducible first|intro _|refine rz ?_|refine ra ?_ ?_|omega|simp only [go_sem,g2])
   refine ah.k kc ?_
   (repeat' with_reducible first|intro _|exact dn|refine rn ?_|refine ra ?_ ?_)
   refine dJ.auto 1 ?_ rfl ?_<;>simp only [go_sem,Int.natCast_succ,Post,aX]
  ·rw [if_pos he] at hP
   subst hP
   have g3:(bH acc=0)=False:=eq_false he
   dsimp only [DJ,aX]
   (repeat' with_reducible first|intro _|refine rz ?_|refine ra ?_ ?_|omega|simp only [go_sem,g2])
   refine ah.k kc ?_
   (repeat' with_reducible first|intro _|refine rz ?_|refine ra ?_ ?_|omega|simp only [go_sem,g3])
   refine dJ.auto 1 ?_ rfl ?_<;>simp only [go_sem,Int.natCast_succ,Post,List.map_nil,aX]
 have g2:(s=[])=False:=eq_false hs
 rw [wE _ _ _ _ hs] at h5
 have kc:=J8 s 10 (by omega)
 have hb:=EX 10 s
 have kw:=nM (fZ 10 s) 32 (by omega)
 have hsm:∀ w,w∈nX 32 (fZ 10 s)→w.length≤(fZ 10 s).length:=kR 32 _ _
 have hbl:=congrArg List.length (eF 10 s)
 rw [List.length_append] at hbl
 by_cases hf1:10∈s
 case neg=>
  rw [if_neg hf1] at h5
  rw [decide_eq_false hf1] at kc
  have hE:E=([],(i:Int),8):=h5.symm
  rw [hE,if_pos (by simp)] at hP
  subst hP
  generalize nX 32 (fZ 10 s)=W at *
  generalize fZ 10 s=b at *
  dsimp only [DJ,aX]
  (repeat' with_reducible first|intro _|refine rz ?_|refine ra ?_ ?_|omega|simp only [go_sem,g2])
  refine ah.k kc ?_
  (repeat' with_reducible first|intro _|exact dn|refine rn ?_|refine ra ?_ ?_)
  refine ah.o kw 1 ?_
  (repeat' with_reducible first|intro _|exact dn|refine rn ?_|refine ra ?_ ?_)
  refine dJ.auto 1 ?_ rfl ?_<;>simp only [go_sem,Int.natCast_succ,Post,List.map_nil,aX]
  all_goals trace_state
 rw [if_pos hf1] at h5
 rw [decide_eq_true hf1] at kc
 by_cases hw3:(nX 32 (fZ 10 s)).length=3
 case neg=>
  rw [FU hw3] at h5
  have hE:E=([],(i:Int),8):=h5.symm
  rw [hE,if_pos (by simp)] at hP
  subst hP
  have g3:(((nX 32 (fZ 10 s)).length:Int)=3)=False:=eq_false (by omega)
  generalize nX 32 (fZ 10 s)=W at *
  generalize fZ 10 s=b at *
  dsimp only [DJ,aX]
  (repeat' with_reducible first|intro _|refine rz ?_|refine ra ?_ ?_|omega|simp only [go_sem,g2])
  refine ah.k kc ?_
  (repeat' with_reducible first|intro _|exact dn|refine rn ?_|refine ra ?_ ?_)
  refine ah.o kw 1 ?_
  (repeat' with_reducible first|intro _|refine rz ?_|refine ra ?_ ?_|omega|simp only [go_sem,g3])
  refine dJ.auto 1 ?_ rfl ?_<;>simp only [go_sem,Int.natCast_succ,Post,List.map_nil,aX]
  all_goals trace_state
 obtain ⟨x,y,z,hxyz⟩:=NH hw3
 rw [yS hxyz] at h5
 rw [hxyz] at kw hsm
 have hx:=hsm x (by simp)
 have hy:=hsm y (by simp)
 have hz:=hsm z (by simp)
 have ka:=qC x (by omega)
 have kb:=qC y (by omega)
 have kn:=EU z (by omega)
 have ki:=uo (ET z) (oL z).1 (oL z).2
 have hvb:=oL z
 generalize fZ 10 s=b at *
 by_cases hz3:z.length≤3
 case neg=>
  have hn:CJ z=none:=by
   rcases oQ z with ⟨_,e⟩|⟨_,e⟩
   ·rw [e,if_neg fun h=>hz3 h.1]
   ·exact e
  rw [hn] at h5
  have hE:E=([],(i:Int),8):=by
   simp only [Option.map_none,ite_self] at h5
   exact h5.symm
  rw [hE,if_pos (by simp)] at hP
  subst hP
  have d2:[x,y,z].getD 2 []=z:=rfl
  have g4:((3:Int)<(z.length:Int))=True:=eq_true (by omega)
  dsimp only [DJ,aX]
  (repeat' with_reducible first|intro _|refine rz ?_|refine ra ?_ ?_|omega|simp only [go_sem,g2])
  refine ah.k kc ?_
  (repeat' with_reducible first|intro _|exact dn|refine rn ?_|refine ra ?_ ?_)
  refine ah.o kw 1 ?_
  (repeat' with_reducible first|intro _|refine rz ?_|refine ra ?_ ?_|omega|simp only [go_sem,d2,g4])
  refine dJ.auto 1 ?_ rfl ?_<;>simp only [go_sem,Int.natCast_succ,Post,List.map_nil,aX]
  all_goals trace_state
 have g4:((3:Int)<(z.length:Int))=False:=eq_false (by omega)
 have d0:[x,y,z].getD 0 []=x:=rfl
 have d1:[x,y,z].getD 1 []=y:=rfl
 have d2:[x,y,z].getD 2 []=z:=rfl
 have hN:=oQ z
 generalize LZ z=ae at *
 generalize ET z=av at *
 generalize hun:uz x=ux at *
 generalize hvn:uz y=uy at *
 obtain ⟨p,ok⟩:=ux
 obtain ⟨q,fine⟩:=uy
 dsimp only at ka kb h5
 have hL:(E=([],(i:Int),8)∧(ok=false∨ok=true∧fine=false∨ok=true∧fine=true∧ae=.ifc 98 .dead∨ok=true∧fine=true∧ae=.raw .nilIface∧av<0∨ok=true∧fine=true∧ae=.raw .nilIface∧0≤av∧Lib.itoa av≠z))∨(ok=true∧fine=true∧ae=.raw .nilIface∧0≤av∧Lib.itoa av=z∧nY s.length ((lD 10 s).drop 1) (acc++[⟨p,q,av⟩]) (i+1)=E):=by
  cases ok with
  | false=>exact .inl ⟨h5.symm,.inl rfl⟩
  | true=>cases fine with
   | false=>exact .inl ⟨h5.symm,.inr (.inl ⟨rfl,rfl⟩)⟩
   | true=>
    rw [if_pos ⟨rfl,rfl⟩] at h5
    rcases hN with ⟨e1,e2⟩|⟨e1,e2⟩
    ·by_cases h0:av<0
     ·rw [e2,if_neg (fun h=>by omega)] at h5
      exact .inl ⟨h5.symm,.inr (.inr (.inr (.inl ⟨rfl,rfl,e1,h0⟩)))⟩
     ·by_cases hq:Lib.itoa av=z
      ·rw [e2,if_pos ⟨hz3,by omega,hq⟩] at h5
       exact .inr ⟨rfl,rfl,e1,by omega,hq,h5⟩
      ·rw [e2,if_neg (fun h=>hq h.2.2)] at h5
       exact .inl ⟨h5.symm,.inr (.inr (.inr (.inr ⟨rfl,rfl,e1,by omega,hq⟩)))⟩
    ·rw [e2] at h5
     exact .inl ⟨h5.symm,.inr (.inr (.inl ⟨rfl,rfl,e1⟩))⟩
 have hae:ae=.raw .nilIface∨ae=.ifc 98 .dead:=hN.elim (fun h=>.inl h.1) fun h=>.inr h.1
 clear h5 hN
 rcases hL with ⟨hE,hL⟩|⟨rfl,rfl,rfl,h0,hq,h5⟩
 ·rw [hE,if_pos (by simp)] at hP
  subst hP
  rcases hL with rfl|⟨rfl,rfl⟩|⟨rfl,rfl,rfl⟩|⟨rfl,rfl,rfl,h0⟩|⟨rfl,rfl,rfl,h0,hq⟩
  ·rcases hae with rfl|rfl
   ·dsimp only [DJ,aX]
    (repeat' with_reducible first|intro _|refine rz ?_|refine ra ?_ ?_|omega|simp only [go_sem,g2])
    refine ah.k kc ?_
    (repeat' with_reducible first|intro _|exact dn|refine rn ?_|refine ra ?_ ?_)
    refine ah.o kw 1 ?_
    (repeat' with_reducible first|intro _|refine rz ?_|refine ra ?_ ?_|omega|simp only [go_sem,d0,d1,d2,g4])
    refine ah.k ka ?_
    (repeat' with_reducible first|intro _|refine rz ?_|refine ra ?_ ?_|omega|simp only [go_sem,d0,d1,d2,g4])
    refine ah.k kb ?_
    (repeat' with_reducible first|intro _|refine rz ?_|refine ra ?_ ?_|omega|simp only [go_sem,d0,d1,d2,g4])
    refine ah.k kn ?_
    (repeat' with_reducible first|intro _|refine rz ?_|refine ra ?_ ?_|omega|simp only [go_sem,d0,d1,d2,g4])
    refine aZ.lex [] [] (by kernel_rfl) (by kernel_rfl) ?_
    (repeat' with_reducible first|intro _|refine rz ?_|refine ra ?_ ?_|omega|simp only [go_sem,d0,d1,d2,g4])
    refine QV.intro (.bool false) (by ((repeat' with_reducible first|intro _|refine rz ?_|refine ra ?_ ?_|omega|simp only [go_sem,d2]);done)) ?_
    (repeat' with_reducible first|intro _|refine rz ?_|refine ra ?_ ?_|omega|simp only [go_sem,d0,d1,d2,g4])
    refine QV.intro (.str (Lib.itoa av)) (by ((repeat' with_reducible first|intro _|refine rz ?_|refine ra ?_ ?_|omega|simp only [go_sem,d2]);done)) ?_
    (repeat' with_reducible first|intro _|refine rz ?_|refine ra ?_ ?_|omega|simp only [go_sem,d0,d1,d2,g4])
    refine dJ.auto 1 ?_ rfl ?_<;>simp only [go_sem,Int.natCast_succ,Post,List.map_nil,aX]
    all_goals trace_state
   ·dsimp only [DJ,aX]
    (repeat' with_reducible first|intro _|refine rz ?_|refine ra ?_ ?_|omega|simp only [go_sem,g2])
    refine ah.k kc ?_
    (repeat' with_reducible first|intro _|exact dn|refine rn ?_|refine ra ?_ ?_)
    refine ah.o kw 1 ?_
    (repeat' with_reducible first|intro _|refine rz ?_|refine ra ?_ ?_|omega|simp only [go_sem,d0,d1,d2,g4])
    refine ah.k ka ?_
    (repeat' with_reducible first|intro _|refine rz ?_|refine ra ?_ ?_|omega|simp only [go_sem,d0,d1,d2,g4])
    refine ah.k kb ?_
    (repeat' with_reducible first|intro _|refine rz ?_|refine ra ?_ ?_|omega|simp only [go_sem,d0,d1,d2,g4])
    refine ah.k kn ?_
    (repeat' with_reducible first|intro _|refine rz ?_|refine ra ?_ ?_|omega|simp only [go_sem,d0,d1,d2,g4])
    refine aZ.lex [] [] (by kernel_rfl) (by kernel_rfl) ?_
    (repeat' with_reducible first|intro _|refine rz ?_|refine ra ?_ ?_|omega|simp only [go_sem,d0,d1,d2,g4])
    refine QV.intro (.bool true) (by ((repeat' with_reducible first|intro _|refine rz ?_|refine ra ?_ ?_|omega|simp only [go_sem,d2]);done)) ?_
    (repeat' with_reducible first|intro _|refine rz ?_|refine ra ?_ ?_|omega|simp only [go_sem,d0,d1,d2,g4])
    refine QV.intro (.str (Lib.itoa av)) (by ((repeat' with_reducible first|intro _|refine rz ?_|refine ra ?_ ?_|omega|simp only [go_sem,d2]);done)) ?_
    (repeat' with_reducible first|intro _|refine rz ?_|refine ra ?_ ?_|omega|simp only [go_sem,d0,d1,d2,g4])
    refine dJ.auto 1 ?_ rfl ?_<;>simp only [go_sem,Int.natCast_succ,Post,List.map_nil,aX]
    all_goals trace_state
  ·rcases hae with rfl|rfl
   ·dsimp only [DJ,aX]
    (repeat' with_reducible first|intro _|refine rz ?_|refine ra ?_ ?_|omega|simp only [go_sem,g2])
    refine ah.k kc ?_
    (repeat' with_reducible first|intro _|exact dn|refine rn ?_|refine ra ?_ ?_)
    refine ah.o kw 1 ?_
    (repeat' with_reducible first|intro _|refine rz ?_|refine ra ?_ ?_|omega|simp only [go_sem,d0,d1,d2,g4])
    refine ah.k ka ?_
    (repeat' with_reducible first|intro _|refine rz ?_|refine ra ?_ ?_|omega|simp only [go_sem,d0,d1,d2,g4])
    refine ah.k kb ?_
    (repeat' with_reducible first|intro _|refine rz ?_|refine ra ?_ ?_|omega|simp only [go_sem,d0,d1,d2,g4])
    refine ah.k kn ?_
    (repeat' with_reducible first|intro _|refine rz ?_|refine ra ?_ ?_|omega|simp only [go_sem,d0,d1,d2,g4])
    refine aZ.lex [] [] (by kernel_rfl) (by kernel_rfl) ?_
    (repeat' with_reducible first|intro _|refine rz ?_|refine ra ?_ ?_|omega|simp only [go_sem,d0,d1,d2,g4])
    refine QV.intro (.bool false) (by ((repeat' with_reducible first|intro _|refine rz ?_|refine ra ?_ ?_|omega|simp only [go_sem,d2]);done)) ?_
    (repeat' with_reducible first|intro _|refine rz ?_|refine ra ?_ ?_|omega|simp only [go_sem,d0,d1,d2,g4])
    refine QV.intro (.str (Lib.itoa av)) (by ((repeat' with_reducible first|intro _|refine rz ?_|refine ra ?_ ?_|omega|simp only [go_sem,d2]);done)) ?_
    (repeat' with_reducible first|intro _|refine rz ?_|refine ra ?_ ?_|omega|simp only [go_sem,d0,d1,d2,g4])
    refine dJ.auto 1 ?_ rfl ?_<;>simp only [go_sem,Int.natCast_succ,Post,List.map_nil,aX]
    all_goals trace_state
   ·dsimp only [DJ,aX]
    (repeat' with_reducible first|intro _|refine rz ?_|refine ra ?_ ?_|omega|simp only [go_sem,g2])
    refine ah.k kc ?_
    (repeat' with_reducible first|intro _|exact dn|refine rn ?_|refine ra ?_ ?_)
    refine ah.o kw 1 ?_
    (repeat' with_reducible first|intro _|refine rz ?_|refine ra ?_ ?_|omega|simp only [go_sem,d0,d1,d2,g4])
    refine ah.k ka ?_
    (repeat' with_reducible first|intro _|refine rz ?_|refine ra ?_ ?_|omega|simp only [go_sem,d0,d1,d2,g4])
    refine ah.k kb ?_
    (repeat' with_reducible first|intro _|refine rz ?_|refine ra ?_ ?_|omega|simp only [go_sem,d0,d1,d2,g4])
    refine ah.k kn ?_
    (repeat' with_reducible first|intro _|refine rz ?_|refine ra ?_ ?_|omega|simp only [go_sem,d0,d1,d2,g4])
    refine aZ.lex [] [] (by kernel_rfl) (by kernel_rfl) ?_
    (repeat' with_reducible first|intro _|refine rz ?_|refine ra ?_ ?_|omega|simp only [go_sem,d0,d1,d2,g4])
    refine QV.intro (.bool true) (by ((repeat' with_reducible first|intro _|refine rz ?_|refine ra ?_ ?_|omega|simp only [go_sem,d2]);done)) ?_
    (repeat' with_reducible first|intro _|refine rz ?_|refine ra ?_ ?_|omega|simp only [go_sem,d0,d1,d2,g4])
    refine QV.intro (.str (Lib.itoa av)) (by ((repeat' with_reducible first|intro _|refine rz ?_|refine ra ?_ ?_|omega|simp only [go_sem,d2]);done)) ?_
    (repeat' with_reducible first|intro _|refine rz ?_|refine ra ?_ ?_|omega|simp only [go_sem,d0,d1,d2,g4])
    refine dJ.auto 1 ?_ rfl ?_<;>simp only [go_sem,Int.natCast_succ,Post,List.map_nil,aX]
    all_goals trace_state
  ·dsimp only [DJ,aX]
   (repeat' with_reducible first|intro _|refine rz ?_|refine ra ?_ ?_|omega|simp only [go_sem,g2])
   refine ah.k kc ?_
   (repeat' with_reducible first|intro _|exact dn|refine rn ?_|refine ra ?_ ?_)
   refine ah.o kw 1 ?_
   (repeat' with_reducible first|intro _|refine rz ?_|refine ra ?_ ?_|omega|simp only [go_sem,d0,d1,d2,g4])
   refine ah.k ka ?_
   (repeat' with_reducible first|intro _|refine rz ?_|refine ra ?_ ?_|omega|simp only [go_sem,d0,d1,d2,g4])
   refine ah.k kb ?_
   (repeat' with_reducible first|intro _|refine rz ?_|refine ra ?_ ?_|omega|simp only [go_sem,d0,d1,d2,g4])
   refine ah.k kn ?_
   (repeat' with_reducible first|intro _|refine rz ?_|refine ra ?_ ?_|omega|simp only [go_sem,d0,d1,d2,g4])
   refine aZ.lex [] [] (by kernel_rfl) (by kernel_rfl) ?_
   (repeat' with_reducible first|intro _|refine rz ?_|refine ra ?_ ?_|omega|simp only [go_sem,d0,d1,d2,g4])
   refine QV.intro (.bool true) (by ((repeat' with_reducible first|intro _|refine rz ?_|refine ra ?_ ?_|omega|simp only [go_sem,d2]);done)) ?_
   (repeat' with_reducible first|intro _|refine rz ?_|refine ra ?_ ?_|omega|simp only [go_sem,d0,d1,d2,g4])
   refine QV.intro (.str (Lib.itoa av)) (by ((repeat' with_reducible first|intro _|refine rz ?_|refine ra ?_ ?_|omega|simp only [go_sem,d2]);done)) ?_
   (repeat' with_reducible first|intro _|refine rz ?_|refine ra ?_ ?_|omega|simp only [go_sem,d0,d1,d2,g4])
   refine dJ.auto 1 ?_ rfl ?_<;>simp only [go_sem,Int.natCast_succ,Post,List.map_nil,aX]
   all_goals trace_state
  ·have fv:(av<0)=True:=eq_true h0
   dsimp only [DJ,aX]
   (repeat' with_reducible first|intro _|refine rz ?_|refine ra ?_ ?_|omega|simp only [go_sem,g2])
   refine ah.k kc ?_
   (repeat' with_reducible first|intro _|exact dn|refine rn ?_|refine ra ?_ ?_)
   refine ah.o kw 1 ?_
   (repeat' with_reducible first|intro _|refine rz ?_|refine ra ?_ ?_|omega|simp only [go_sem,d0,d1,d2,g4])
   refine ah.k ka ?_
   (repeat' with_reducible first|intro _|refine rz ?_|refine ra ?_ ?_|omega|simp only [go_sem,d0,d1,d2,g4])
   refine ah.k kb ?_
   (repeat' with_reducible first|intro _|refine rz ?_|refine ra ?_ ?_|omega|simp only [go_sem,d0,d1,d2,g4])
   refine ah.k kn ?_
   (repeat' with_reducible first|intro _|refine rz ?_|refine ra ?_ ?_|omega|simp only [go_sem,d0,d1,d2,g4])
   refine aZ.lex [] [] (by kernel_rfl) (by kernel_rfl) ?_
   (repeat' with_reducible first|intro _|refine rz ?_|refine ra ?_ ?_|omega|simp only [go_sem,d0,d1,d2,g4,fv])
   refine QV.intro (.bool false) (by ((repeat' with_reducible first|intro _|refine rz ?_|refine ra ?_ ?_|omega|simp only [go_sem,d2,fv]);done)) ?_
   (repeat' with_reducible first|intro _|refine rz ?_|refine ra ?_ ?_|omega|simp only [go_sem,d0,d1,d2,g4,fv])
   refine QV.intro (.str (Lib.itoa av)) (by ((repeat' with_reducible first|intro _|refine rz ?_|refine ra ?_ ?_|omega|simp only [go_sem,d2,fv]);done)) ?_
   (repeat' with_reducible first|intro _|refine rz ?_|refine ra ?_ ?_|omega|simp only [go_sem,d0,d1,d2,g4,fv])
   refine dJ.auto 1 ?_ rfl ?_<;>simp only [go_sem,Int.natCast_succ,Post,List.map_nil,aX]
   all_goals trace_state
  ·have fv:(av<0)=False:=eq_false (by omega)
   have fq:(Lib.itoa av=z)=False:=eq_false hq
   dsimp only [DJ,aX]
   (repeat' with_reducible first|intro _|refine rz ?_|refine ra ?_ ?_|omega|simp only [go_sem,g2])
   refine ah.k kc ?_
   (repeat' with_reducible first|intro _|exact dn|refine rn ?_|refine ra ?_ ?_)
   refine ah.o kw 1 ?_
   (repeat' with_reducible first|intro _|refine rz ?_|refine ra ?_ ?_|omega|simp only [go_sem,d0,d1,d2,g4])
   refine ah.k ka ?_
   (repeat' with_reducible first|intro _|refine rz ?_|refine ra ?_ ?_|omega|simp only [go_sem,d0,d1,d2,g4])
   refine ah.k kb ?_
   (repeat' with_reducible first|intro _|refine rz ?_|refine ra ?_ ?_|omega|simp only [go_sem,d0,d1,d2,g4])
   refine ah.k kn ?_
   (repeat' with_reducible first|intro _|refine rz ?_|refine ra ?_ ?_|omega|simp only [go_sem,d0,d1,d2,g4])
   refine aZ.lex [] [] (by kernel_rfl) (by kernel_rfl) ?_
   (repeat' with_reducible first|intro _|refine rz ?_|refine ra ?_ ?_|omega|simp only [go_sem,d0,d1,d2,g4,fv,fq])
   refine QV.intro (.bool false) (by ((repeat' with_reducible first|intro _|refine rz ?_|refine ra ?_ ?_|omega|simp only [go_sem,d2,fv,fq]);done)) ?_
   (repeat' with_reducible first|intro _|refine rz ?_|refine ra ?_ ?_|omega|simp only [go_sem,d0,d1,d2,g4,fv,fq])
   refine QV.intro (.str (Lib.itoa av)) (by ((repeat' with_reducible first|intro _|refine rz ?_|refine ra ?_ ?_|omega|simp only [go_sem,d2,fv,fq]);refine ah.k ki ?_;(repeat' with_reducible first|intro _|exact dn|refine rn ?_|refine ra ?_ ?_))) ?_
   (repeat' with_reducible first|intro _|refine rz ?_|refine ra ?_ ?_|omega|simp only [go_sem,d0,d1,d2,g4,fv,fq])
   refine dJ.auto 1 ?_ rfl ?_<;>simp only [go_sem,Int.natCast_succ,Post,List.map_nil,aX]
   all_goals trace_state
 ·have fv:(av<0)=False:=eq_false (by omega)
  have fq:(Lib.itoa av=z)=True:=eq_true hq
  dsimp only [DJ,aX]
  (repeat' with_reducible first|intro _|refine rz ?_|refine ra ?_ ?_|omega|simp only [go_sem,g2])
  refine ah.k kc ?_
  (repeat' with_reducible first|intro _|exact dn|refine rn ?_|refine ra ?_ ?_)
  refine ah.o kw 1 ?_
  (repeat' with_reducible first|intro _|refine rz ?_|refine ra ?_ ?_|omega|simp only [go_sem,d0,d1,d2,g4])
  refine ah.k ka ?_
  (repeat' with_reducible first|intro _|refine rz ?_|refine ra ?_ ?_|omega|simp only [go_sem,d0,d1,d2,g4])
  refine ah.k kb ?_
  (repeat' with_reducible first|intro _|refine rz ?_|refine ra ?_ ?_|omega|simp only [go_sem,d0,d1,d2,g4])
  refine ah.k kn ?_
  (repeat' with_reducible first|intro _|refine rz ?_|refine ra ?_ ?_|omega|simp only [go_sem,d0,d1,d2,g4])
  refine aZ.lex [] [] (by kernel_rfl) (by kernel_rfl) ?_
  (repeat' with_reducible first|intro _|refine rz ?_|refine ra ?_ ?_|omega|simp only [go_sem,d0,d1,d2,g4,fv,fq])
  refine QV.intro (.bool false) (by ((repeat' with_reducible first|intro _|refine rz ?_|refine ra ?_ ?_|omega|simp only [go_sem,d2,fv,fq]);done)) ?_
  (repeat' with_reducible first|intro _|refine rz ?_|refine ra ?_ ?_|omega|simp only [go_sem,d0,d1,d2,g4,fv,fq])
  refine QV.intro (.str (Lib.itoa av)) (by ((repeat' with_reducible first|intro _|refine rz ?_|refine ra ?_ ?_|omega|simp only [go_sem,d2,fv,fq]);refine ah.k ki ?_;(repeat' with_reducible first|intro _|exact dn|refine rn ?_|refine ra ?_ ?_))) ?_
  (repeat' with_reducible first|intro _|refine rz ?_|refine ra ?_ ?_|omega|simp only [go_sem,d0,d1,d2,g4,fv,fq])
  have ha:1≤(lD 10 s).length:=List.length_pos_iff.2 ((qg 10 s).1 hf1)
  have hT:((lD 10 s).drop 1).length<s.length:=by rw [List.length_drop];omega
  rw [wC _ (((lD 10 s).drop 1).length+1) _ _ _ hT (by omega)] at h5
  generalize (lD 10 s).drop 1=t at *
  refine ⟨(t,acc++[⟨p,q,av⟩],i+1),?_,⟨by dsimp only;omega,by dsimp only;omega,by simp;omega,h5⟩,by dsimp only;omega⟩
  refine dB.bJ rfl ?_ ?_<;>simp only [go_sem,Int.natCast_succ,DJ,aX]
  all_goals simp [Mx.av]
end Go.Fv.E
/- Parts of a mix, read by the reference. -/
namespace Go.Fv.E
open Go Go.Proofs
set_option maxHeartbeats 4000000 in
theorem Dq (s:Bytes) (hs:s.length≤2000000):aU Tryz.prog 25 [.str s] (.tup [.str (uz s).1,.bool (uz s).2]) []:=by
 refine aU.bT Tryz.func25 rfl (by decide) (by simp [Tryz.f25]) [.tmp 2,.tmp 3] rfl fun w0 T0 _=>?_
 simp only [Tryz.f25,aI]
 (repeat' with_reducible first|intro _|exact dn|refine rn ?_|refine ra ?_ ?_)
 refine bM.intro (fun x:Bytes × Bytes=>⟨38,[(0,.str s),(4,.str x.2),(5,.str x.1)],[],0⟩) (fun x=>x.1.length+x.2.length≤s.length∧(jD x.1).map (x.2++·)=jD s) (fun x=>x.1.length) (s,[]) ?_ ⟨Nat.le_refl _,by simp⟩ fun x hI=>?_
 ·refine dB.bJ rfl ?_ ?_<;>simp only [go_sem,Int.natCast_succ]
 obtain ⟨t,acc⟩:=x
 dsimp only at hI
 obtain ⟨hl,hI⟩:=hI
 cases t with
 | nil=>
  have hu:jD s=some acc:=by rw [←hI];simp [jD]
  have hq:uz s=(acc,decide (s≠[])):=by unfold uz;rw [hu]
  rw [hq]
  have f1:(([]:Bytes)=[])=True:=eq_true rfl
  (repeat' with_reducible first|intro _|refine rz ?_|refine ra ?_ ?_|omega|simp only [go_sem,f1])
  refine dJ.auto 0 ?_ rfl ?_<;>simp only [go_sem,Int.natCast_succ,Post]
  all_goals trace_state
 | cons c t=>
  rw [List.length_cons] at hl
  have hc:=c.toNat_lt
  have hcI:c=92↔(c.toNat:Int)=92:=⟨fun e=>by rw [e];rfl,fun e=>by
   rw [←UInt8.toNat_inj];show _=92;omega⟩
  have f1:(c::t=[])=False:=eq_false (by simp)
  have g1:(1:Int)≤((c::t).length:Int):=by rw [List.length_cons];omega
  have g2:(c::t).getD 0 0=c:=rfl
  by_cases h92:c=92
  case neg=>
   have f2:((c.toNat:Int)=92)=False:=eq_false fun e=>h92 (hcI.2 e)
   rw [nO h92,iw] at hI
   (repeat' with_reducible first|intro _|refine rz ?_|refine ra ?_ ?_|omega|simp only [go_sem,f1,g2,f2,List.take_length])
   refine ⟨(t,acc++[c]),dB.bJ rfl ?_ ?_,⟨by simp;omega,hI⟩,by simp⟩<;>simp only [go_sem,Int.natCast_succ]
   all_goals trace_state
  subst h92
  have g3:((UInt8.toNat 92:Nat):Int)=92:=rfl
  cases t with
  | nil=>
   rw [FZ] at hI
   rw [qE hI.symm]
   (repeat' with_reducible first|intro _|refine rz ?_|refine ra ?_ ?_|omega|simp only [go_sem,f1,g2,g3])
   refine dJ.auto 0 ?_ rfl ?_<;>simp only [go_sem,Int.natCast_succ,Post]
   all_goals trace_state
  | cons d t=>
   rw [List.length_cons] at hl
   have g4:(92::d::t).getD 1 0=d:=rfl
   have f5:(((t.length+1+1:Nat):Int)<2)=False:=eq_false (by omega)
   have k:=pY [92,115,110] d (by simp)
   rw [OT] at k
   by_cases h1:d=115
   ·subst h1
    have e5:(((115:UInt8).toNat:Nat):Int)=115:=rfl
    rw [e5,if_neg (by decide),if_pos rfl] at k
    rw [qy,iw] at hI
    (repeat' with_reducible first|intro _|refine rz ?_|refine ra ?_ ?_|omega|simp only [go_sem,f1,g2,g3,g4,f5,List.take_length])
    refine ah.k k ?_
    (repeat' with_reducible first|intro _|exact dn|refine rn ?_|refine ra ?_ ?_)
    refine ⟨(t,acc++[32]),dB.bJ rfl ?_ ?_,⟨by simp;omega,hI⟩,by simp;omega⟩<;>simp only [go_sem,Int.natCast_succ,List.take_length]
   by_cases h2:d=110
   ·subst h2
    have e5:(((110:UInt8).toNat:Nat):Int)=110:=rfl
    rw [e5,if_neg (by decide),if_neg (by decide),if_pos rfl] at k
    rw [qA,iw] at hI
    (repeat' with_reducible first|intro _|refine rz ?_|refine ra ?_ ?_|omega|simp only [go_sem,f1,g2,g3,g4,f5,List.take_length])
    refine ah.k k ?_
    (repeat' with_reducible first|intro _|exact dn|refine rn ?_|refine ra ?_ ?_)
    refine ⟨(t,acc++[10]),dB.bJ rfl ?_ ?_,⟨by simp;omega,hI⟩,by simp;omega⟩<;>simp only [go_sem,Int.natCast_succ,List.take_length]
   by_cases h3:d=92
   ·subst h3
    have e5:(((92:UInt8).toNat:Nat):Int)=92:=rfl
    rw [e5,if_pos rfl] at k
    rw [qB,iw] at hI
    (repeat' with_reducible first|intro _|refine rz ?_|refine ra ?_ ?_|omega|simp only [go_sem,f1,g2,g3,g4,f5,List.take_length])
    refine ah.k k ?_
    (repeat' with_reducible first|intro _|exact dn|refine rn ?_|refine ra ?_ ?_)
    refine ⟨(t,acc++[92]),dB.bJ rfl ?_ ?_,⟨by simp;omega,hI⟩,by simp;omega⟩<;>simp only [go_sem,Int.natCast_succ,List.take_length]
   rw [if_neg h3,if_neg h1,if_neg h2] at k
   rw [Ad h1 h2 h3] at hI
   rw [qE hI.symm]
   (repeat' with_reducible first|intro _|refine rz ?_|refine ra ?_ ?_|omega|simp only [go_sem,f1,g2,g3,g4,f5,List.take_length])
   refine ah.k k ?_
   (repeat' with_reducible first|intro _|exact dn|refine rn ?_|refine ra ?_ ?_)
   refine dJ.auto 0 ?_ rfl ?_<;>simp only [go_sem,Int.natCast_succ,Post]
   all_goals trace_state
end Go.Fv.E
