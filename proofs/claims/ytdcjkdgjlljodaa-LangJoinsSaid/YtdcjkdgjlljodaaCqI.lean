/- A part. -/
import Derived.Test.YtdcjkdgjlljodaaGnX
import Derived.Test.YtdcjkdgjlljodaaGnO
namespace Abs
open Go
class SlcR (E : Env) where
 ac9 : Nat
 ad2 : Nat
 ac0 : Nat
 ac2 : Nat
 as0 : Nat
 ak8 : Nat
 aq5 : Nat
 ag2 : Nat
 t_string : Nat
 ae6 : Nat
 ad3 : Nat
 af5 : Nat
 ah4 : Nat
 ab3 : DefK E ac9 Gn.ab2 Gn.aa7 8
 ag6 : Def E ad2 (Gn.ad9 ac0) Gn.ad0 42
 ah2 : Def E ac0 Gn.ae1 Gn.ad6 19
 ai6 : Def E ac2 (Gn.ae3 as0 ak8) Gn.ad7 54
 bf8 : Def E as0 (Gn.az7 aq5) Gn.as5 17
 bd3 : Def E aq5 Gn.aw6 Gn.aq7 6
 av9 : Def E ak8 Gn.ao3 Gn.ak6 6
 al8 : DefK E ag2 (Gn.ah5 t_string) Gn.ag0 27
 ai9 : DefK E ae6 (Gn.ag1 ag2 t_string) Gn.ae5 36
 ai4 : Def E ad3 Gn.af3 Gn.ae2 61
 am2 : Def E af5 (Gn.ag3 ah4) Gn.af4 9
 ap6 : Def E ah4 Gn.ai7 Gn.ah3 19
class TreR (E : Env) where
 ap4 : Nat
 bc2 : Nat
 bc3 : Nat
 bl5 : Nat
 bb0 : Nat
 aq9 : Nat
 ab9 : Nat
 bm8 : Nat
 ab6 : Nat
 bf7 : Def E ap4 (Gn.ay9 ap4) Gn.ar8 39
 bo8 : Def E bc2 (Gn.bk6 ap4) Gn.bb6 10
 bo9 : Def E bc3 Gn.bk8 Gn.bb8 15
 ca9 : Def E bl5 (Gn.bx7 bc3) Gn.bk7 71
 bt7 : Def E bb0 (Gn.bp6 bl5 aq9 ab9) Gn.bg2 11
 bj2 : Def E aq9 (Gn.bb7 bb0) Gn.av0 6
 cj1 : Def E bm8 (Gn.cl5 bb0 bc2) Gn.bp7 18
 af9 : Def E ab9 (Gn.ac3 ab6) Gn.ab8 9
 ah0 : Def E ab6 Gn.ad4 Gn.ac6 19
class EndR (E : Env) where
 ai3 : Nat
 ax5 : Nat
 ao5 : Nat
 at8 : Nat
 ae4 : Nat
 ag4 : Nat
 al0 : Nat
 ax4 : Nat
 be7 : Def E ai3 (Gn.at0 ax5 ai3) Gn.ap9 159
 bj7 : Def E ao5 Gn.ay6 Gn.at1 14
 bd1 : Def E at8 (Gn.ar2 ao5 ai3) Gn.ao2 14
 au1 : Def E ae4 (Gn.an0 ae4) Gn.aj6 21
 aw4 : Def E ag4 (Gn.ap1 ag4) Gn.al5 25
 be6 : Def E al0 (Gn.as9 al0) Gn.ap8 89
 bh8 : Def E ax4 (Gn.av6 ag4 ae4 al0) Gn.ar3 15
class bt9 (E : Env) extends SlcR E, EndR E, TreR E where
 ae7 : Nat
 ab1 : Nat
 aj3 : Nat
 ai2 : Nat
 ao4 : Nat
 ak5 : Nat
 af7 : Nat
 ai1 : Nat
 at7 : Nat
 aj0 : Nat
 au5 : Nat
 av2 : Nat
 av3 : Nat
 ak9 : Nat
 ag7 : Nat
 aj4 : Nat
 aj5 : Nat
 ar4 : Def E ae7 (Gn.am8 ad3 ae6 ab1) Gn.aj1 14
 aw2 : Def E aj3 (Gn.ar0 ai2 ac9 ad2) Gn.am9 9
 aw1 : Def E ai2 (Gn.ao9 ac2) Gn.al2 13
 ba1 : Def E ao4 (Gn.as2 ak5) Gn.ao8 50
 ba0 : Def E af7 (Gn.as1 ae7 ao4 af7 ai1) Gn.ao7 63
 aw0 : Def E ai1 (Gn.ao6 aj3 ae7 af7) Gn.al1 57
 bd0 : Def E at7 (Gn.bc6 af7 bm8 ac9) Gn.at9 31
 as4 : Def E aj0 (Gn.aq6 at7) Gn.am0 22
 bl9 : Def E au5 (Gn.bg8 au5) Gn.az2 72
 ba7 : Def E av2 (Gn.ax6 au5 af7 bm8 af5) Gn.ar1 36
 be5 : Def E av3 (Gn.as8 ao5 ai3) Gn.ap7 31
 aw3 : Def E ak9 Gn.ap0 Gn.al4 26
 ar6 : Def E ag7 (Gn.al6 ag7) Gn.ai8 51
 au2 : Def E aj4 (Gn.an2 aj5 ag7) Gn.aj7 10
 au3 : Def E aj5 (Gn.an4 ae4) Gn.aj9 6
class TakR (E : Env) extends bt9 E where
 be1 : Nat
 bu9 : Def E be1 (Gn.bg9 aj0) Gn.az3 11
class AliR (E : Env) extends bt9 E where
 af8 : Nat
 as7 : Nat
 an9 : Nat
 bd2 : Def E af8 (Gn.an3 as7 ak9 av2 at7 aj0) Gn.aj8 29
 bj8 : Def E as7 (Gn.as3 an9) Gn.ap2 13
class LawJ (E : Env) extends TakR E where
 ao0 : Nat
 af8 : Nat
 aw5 : Def E ao0 (Gn.ai0 af8 aj4 ag4 ae4 be1) Gn.ag5 92
end Abs
