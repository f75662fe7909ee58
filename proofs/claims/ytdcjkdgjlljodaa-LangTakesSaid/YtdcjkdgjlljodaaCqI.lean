/- A part. -/
import Derived.Test.YtdcjkdgjlljodaaGnX
import Derived.Test.YtdcjkdgjlljodaaGnO
namespace Abs
open Go
class SlcR (E : Env) where
 ad3 : Nat
 ad7 : Nat
 ac5 : Nat
 ac7 : Nat
 av9 : Nat
 am9 : Nat
 au0 : Nat
 ah5 : Nat
 t_string : Nat
 af7 : Nat
 ad8 : Nat
 ag7 : Nat
 ai8 : Nat
 ab6 : DefK E ad3 Gn.ab5 Gn.aa9 8
 ah9 : Def E ad7 (Gn.ae9 ac5) Gn.ad4 42
 ai6 : Def E ac5 Gn.af2 Gn.ae3 19
 ak2 : Def E ac7 (Gn.af4 av9 am9) Gn.ae6 54
 bj4 : Def E av9 (Gn.bd3 au0) Gn.aw6 17
 bh5 : Def E au0 Gn.ba3 Gn.au4 6
 az3 : Def E am9 Gn.ar2 Gn.am7 6
 ao6 : DefK E ah5 (Gn.ai9 t_string) Gn.ah3 27
 ak9 : DefK E af7 (Gn.ah4 ah5 t_string) Gn.af6 36
 ak0 : Def E ad8 Gn.ag5 Gn.af3 61
 ap0 : Def E ag7 (Gn.ah8 ai8) Gn.ag6 9
 at2 : Def E ai8 Gn.ak4 Gn.ai7 19
class TreR (E : Env) where
 as7 : Nat
 bg5 : Nat
 bg6 : Nat
 bo5 : Nat
 bf4 : Nat
 au7 : Nat
 ac4 : Nat
 bp9 : Nat
 ac0 : Nat
 bj3 : Def E as7 (Gn.bc6 as7) Gn.av7 39
 bs2 : Def E bg5 (Gn.bn7 as7) Gn.bf9 10
 bs3 : Def E bg6 Gn.bn9 Gn.bg1 15
 ce2 : Def E bo5 (Gn.cb4 bg6) Gn.bn8 71
 bx3 : Def E bf4 (Gn.bt1 bo5 au7 ac4) Gn.bj6 11
 bm2 : Def E au7 (Gn.bg0 bf4) Gn.ay7 6
 cm9 : Def E bp9 (Gn.cp5 bf4 bg5) Gn.bt2 18
 ah2 : Def E ac4 (Gn.ac9 ac0) Gn.ac3 9
 ai4 : Def E ac0 Gn.ae1 Gn.ad1 19
class EndR (E : Env) where
 ag3 : Nat
 ac8 : Nat
 ai3 : Nat
 al3 : Nat
 ah0 : Nat
 aj8 : Nat
 aj7 : Nat
 ap5 : Nat
 ba0 : Def E ag3 (Gn.as2 ac8 ag3) Gn.ao1 159
 be2 : Def E ai3 Gn.aw3 Gn.as4 14
 ax7 : Def E al3 (Gn.ap9 ai3 ag3) Gn.al6 14
 ax8 : Def E ah0 (Gn.aq0 ah0) Gn.al7 21
 ba1 : Def E aj8 (Gn.as3 aj8) Gn.ao2 25
 az9 : Def E aj7 (Gn.as0 aj7) Gn.an9 89
 bb6 : Def E ap5 (Gn.au2 aj8 ah0 aj7) Gn.aq1 15
class bx5 (E : Env) extends SlcR E, EndR E, TreR E where
 af8 : Nat
 ab4 : Nat
 al2 : Nat
 aj6 : Nat
 ar3 : Nat
 am6 : Nat
 ag8 : Nat
 aj5 : Nat
 ax3 : Nat
 aj3 : Nat
 ay2 : Nat
 au8 : Nat
 an2 : Nat
 an0 : Nat
 ai0 : Nat
 al4 : Nat
 al5 : Nat
 av1 : Def E af8 (Gn.ap7 ad8 af7 ab4) Gn.al1 14
 az6 : Def E al2 (Gn.au9 aj6 ad3 ad7) Gn.ap8 9
 az5 : Def E aj6 (Gn.ar7 ac7) Gn.an5 13
 be1 : Def E ar3 (Gn.aw2 am6) Gn.ar6 50
 be0 : Def E ag8 (Gn.aw1 af8 ar3 ag8 aj5) Gn.ar5 63
 az4 : Def E aj5 (Gn.ar4 al2 af8 ag8) Gn.an4 57
 bh3 : Def E ax3 (Gn.bg8 ag8 bp9 ad3) Gn.ax5 31
 aw5 : Def E aj3 (Gn.au1 ax3) Gn.ao8 22
 bp0 : Def E ay2 (Gn.bk3 ay2) Gn.bc8 72
 be9 : Def E au8 (Gn.bb2 ay2 ag8 bp9 ag7) Gn.av0 36
 az8 : Def E an2 (Gn.ar9 ai3 ag3) Gn.an8 31
 az7 : Def E an0 Gn.ar8 Gn.an7 26
 av6 : Def E ai0 (Gn.ao4 ai0) Gn.ak7 51
 ax9 : Def E al4 (Gn.aq3 al5 ai0) Gn.al8 10
 ay0 : Def E al5 (Gn.aq5 ah0) Gn.am0 6
class TakR (E : Env) extends bx5 E where
 bi3 : Nat
 by5 : Def E bi3 (Gn.bk4 aj3) Gn.bc9 11
class AliR (E : Env) extends bx5 E where
 ah1 : Nat
 aw7 : Nat
 aq9 : Nat
 bh4 : Def E ah1 (Gn.aq4 aw7 an0 au8 ax3 aj3) Gn.al9 29
 bm7 : Def E aw7 (Gn.aw4 aq9) Gn.as5 13
class LawT (E : Env) extends TakR E where
 ar0 : Nat
 ah1 : Nat
 ak5 : Nat
 an1 : Nat
 an3 : Nat
 al0 : Def E ar0 (Gn.af5 ah1 al4 ai3 ak5 ap5 al3 an1 au8 aj3 bi3) Gn.ae5 60
 au3 : Def E an1 (Gn.aj1 an2) Gn.ah6 18
 be4 : Def E ak5 (Gn.ao3 ac8 ak5 ag3 an3) Gn.ak6 139
 bi7 : Def E an3 (Gn.as1 an3) Gn.ao0 56
end Abs
