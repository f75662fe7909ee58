/- A part. -/
import Derived.Test.YtdcjkdgjlljodaaGnX
import Derived.Test.YtdcjkdgjlljodaaGnO
namespace Abs
open Go
class SlcR (E : Env) where
 ad2 : Nat
 ad5 : Nat
 ac4 : Nat
 ac6 : Nat
 at7 : Nat
 al6 : Nat
 as1 : Nat
 ag9 : Nat
 t_string : Nat
 af2 : Nat
 ad6 : Nat
 ag2 : Nat
 ai2 : Nat
 ab4 : DefK E ad2 Gn.ab1 Gn.aa6 8
 ah3 : Def E ad5 (Gn.ae2 ac4) Gn.ad3 42
 ai0 : Def E ac4 Gn.ae5 Gn.ad9 19
 aj5 : Def E ac6 (Gn.ae9 at7 al6) Gn.ae0 54
 bg8 : Def E at7 (Gn.ba6 as1) Gn.au2 17
 be9 : Def E as1 Gn.ax6 Gn.as3 6
 aw7 : Def E al6 Gn.ap3 Gn.al5 6
 am8 : DefK E ag9 (Gn.ai3 t_string) Gn.ag7 27
 aj8 : DefK E af2 (Gn.ag8 ag9 t_string) Gn.af0 36
 aj3 : Def E ad6 Gn.ag0 Gn.ae6 61
 an1 : Def E ag2 (Gn.ah0 ai2) Gn.ag1 9
 ar1 : Def E ai2 Gn.aj6 Gn.ai1 19
class TreR (E : Env) where
 aq7 : Nat
 bd7 : Nat
 bd8 : Nat
 bl6 : Nat
 bc3 : Nat
 as6 : Nat
 ac2 : Nat
 bn2 : Nat
 ab9 : Nat
 bg7 : Def E aq7 (Gn.az8 aq7) Gn.at4 39
 bp3 : Def E bd7 (Gn.bk9 aq7) Gn.bd0 10
 bp4 : Def E bd8 Gn.bl1 Gn.bd2 15
 ca7 : Def E bl6 (Gn.by1 bd8) Gn.bl0 71
 bu3 : Def E bc3 (Gn.bq2 bl6 as6 ac2) Gn.bh2 11
 bj5 : Def E as6 (Gn.bd1 bc3) Gn.aw2 6
 cj0 : Def E bn2 (Gn.cl4 bc3 bd7) Gn.bq3 18
 ag6 : Def E ac2 (Gn.ac7 ab9) Gn.ac1 9
 ah8 : Def E ab9 Gn.ad7 Gn.ad0 19
class EndR (E : Env) where
 ah2 : Nat
 ai5 : Nat
 al4 : Nat
 av0 : Nat
 ag4 : Nat
 aj2 : Nat
 aj1 : Nat
 an6 : Nat
 ax4 : Def E ah2 (Gn.aq2 ai5 ah2) Gn.am4 159
 bb3 : Def E al4 Gn.au0 Gn.aq4 14
 be7 : Def E av0 (Gn.as9 al4 ah2) Gn.ap2 14
 av3 : Def E ag4 (Gn.ao0 ag4) Gn.ak3 21
 ax5 : Def E aj2 (Gn.aq3 aj2) Gn.am5 25
 ax3 : Def E aj1 (Gn.aq1 aj1) Gn.am3 89
 ay8 : Def E an6 (Gn.as2 aj2 ag4 aj1) Gn.ao1 15
class bu5 (E : Env) extends SlcR E, EndR E, TreR E where
 af3 : Nat
 ab3 : Nat
 ak0 : Nat
 ai9 : Nat
 ap4 : Nat
 an5 : Nat
 ag3 : Nat
 ai8 : Nat
 as0 : Nat
 at6 : Nat
 av7 : Nat
 aw3 : Nat
 al7 : Nat
 aj0 : Nat
 ah4 : Nat
 ak1 : Nat
 ak2 : Nat
 at0 : Def E af3 (Gn.an8 ad6 af2 ab3) Gn.aj9 14
 ax0 : Def E ak0 (Gn.as7 ai9 ad2 ad5) Gn.an9 9
 aw9 : Def E ai9 (Gn.ap8 ac6) Gn.al9 13
 bb2 : Def E ap4 (Gn.at9 an5) Gn.ap7 50
 bb1 : Def E ag3 (Gn.at8 af3 ap4 ag3 ai8) Gn.ap6 63
 aw8 : Def E ai8 (Gn.ap5 ak0 af3 ag3) Gn.al8 57
 be6 : Def E as0 (Gn.be1 ag3 bn2 ad2) Gn.av1 31
 az5 : Def E at6 (Gn.av8 as0) Gn.aq8 22
 bm1 : Def E av7 (Gn.bh9 av7) Gn.ba2 72
 bb9 : Def E aw3 (Gn.ay5 av7 ag3 bn2 ag2) Gn.as8 36
 ax2 : Def E al7 (Gn.aq0 al4 ah2) Gn.am2 31
 ax1 : Def E aj0 Gn.ap9 Gn.am1 26
 at3 : Def E ah4 (Gn.am6 ah4) Gn.aj7 51
 av4 : Def E ak1 (Gn.ao3 ak2 ah4) Gn.ak4 10
 av5 : Def E ak2 (Gn.ao5 ag4) Gn.ak6 6
class AliR (E : Env) extends bu5 E where
 ag5 : Nat
 au4 : Nat
 ap0 : Nat
 be8 : Def E ag5 (Gn.ao4 au4 aj0 aw3 as0 at6) Gn.ak5 29
 bk0 : Def E au4 (Gn.au1 ap0) Gn.aq5 13
class LawE (E : Env) extends bu5 E where
 ar0 : Nat
 ag5 : Nat
 ak8 : Def E ar0 (Gn.af7 ag5 ak1 an6 al7 aj0 as0) Gn.ae3 55
end Abs
