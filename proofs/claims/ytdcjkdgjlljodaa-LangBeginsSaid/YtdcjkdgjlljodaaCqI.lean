/- A part. -/
import Derived.Test.YtdcjkdgjlljodaaGnX
import Derived.Test.YtdcjkdgjlljodaaGnO
namespace Abs
open Go
class SlcR (E : Env) where
 ac9 : Nat
 ad2 : Nat
 ac1 : Nat
 ac3 : Nat
 at3 : Nat
 al4 : Nat
 ar4 : Nat
 ag9 : Nat
 t_string : Nat
 ae9 : Nat
 ad3 : Nat
 ag0 : Nat
 ai0 : Nat
 ab3 : DefK E ac9 Gn.ab2 Gn.aa7 8
 ah1 : Def E ad2 (Gn.ae1 ac1) Gn.ad0 42
 ah8 : Def E ac1 Gn.ae3 Gn.ad7 19
 aj1 : Def E ac3 (Gn.ae6 at3 al4) Gn.ad9 54
 bg8 : Def E at3 (Gn.ba6 ar4) Gn.at9 17
 be5 : Def E ar4 Gn.ax7 Gn.ar6 6
 ax2 : Def E al4 Gn.ap0 Gn.al2 6
 am4 : DefK E ag9 (Gn.ai1 t_string) Gn.ag7 27
 aj5 : DefK E ae9 (Gn.ag8 ag9 t_string) Gn.ae7 36
 ai9 : Def E ad3 Gn.af6 Gn.ae4 61
 am8 : Def E ag0 (Gn.ah0 ai0) Gn.af8 9
 aq4 : Def E ai0 Gn.aj2 Gn.ah9 19
class TreR (E : Env) where
 aq0 : Nat
 bd4 : Nat
 bd5 : Nat
 bm3 : Nat
 bc1 : Nat
 ar9 : Nat
 ab9 : Nat
 bn7 : Nat
 ab6 : Nat
 bg7 : Def E aq0 (Gn.az9 aq0) Gn.at1 39
 bp5 : Def E bd4 (Gn.bl6 aq0) Gn.bc6 10
 bp6 : Def E bd5 Gn.bl8 Gn.bc8 15
 cc2 : Def E bm3 (Gn.bz0 bd5) Gn.bl7 71
 bu8 : Def E bc1 (Gn.bq4 bm3 ar9 ab9) Gn.bh1 11
 bk2 : Def E ar9 (Gn.bc7 bc1) Gn.aw5 6
 ck3 : Def E bn7 (Gn.cm7 bc1 bd4) Gn.bq5 18
 ag6 : Def E ab9 (Gn.ac4 ab6) Gn.ab8 9
 ah6 : Def E ab6 Gn.ad4 Gn.ac6 19
class EndR (E : Env) where
 ai8 : Nat
 ay7 : Nat
 ap2 : Nat
 av4 : Nat
 ag4 : Nat
 al7 : Nat
 al6 : Nat
 ay6 : Nat
 bg0 : Def E ai8 (Gn.au5 ay7 ai8) Gn.aq7 159
 bk7 : Def E ap2 Gn.az6 Gn.au7 14
 be3 : Def E av4 (Gn.as3 ap2 ai8) Gn.ao9 14
 av8 : Def E ag4 (Gn.an7 ag4) Gn.ak1 21
 bg1 : Def E al7 (Gn.au6 al7) Gn.aq8 25
 bf9 : Def E al6 (Gn.au4 al6) Gn.aq6 89
 bi8 : Def E ay6 (Gn.ax0 al7 ag4 al6) Gn.as4 15
class bv0 (E : Env) extends SlcR E, EndR E, TreR E where
 af0 : Nat
 ab1 : Nat
 aj8 : Nat
 ai7 : Nat
 ap1 : Nat
 al0 : Nat
 ag2 : Nat
 ai6 : Nat
 av3 : Nat
 aj6 : Nat
 aw2 : Nat
 as0 : Nat
 aw7 : Nat
 al5 : Nat
 ah2 : Nat
 aj9 : Nat
 ak0 : Nat
 as5 : Def E af0 (Gn.an5 ad3 ae9 ab1) Gn.aj7 14
 ax5 : Def E aj8 (Gn.as1 ai7 ac9 ad2) Gn.an6 9
 ax4 : Def E ai7 (Gn.ap6 ac3) Gn.al9 13
 bb2 : Def E ap1 (Gn.at6 al0) Gn.ap5 50
 bb1 : Def E ag2 (Gn.at5 af0 ap1 ag2 ai6) Gn.ap4 63
 ax3 : Def E ai6 (Gn.ap3 aj8 af0 ag2) Gn.al8 57
 be2 : Def E av3 (Gn.bd7 ag2 bn7 ac9) Gn.av6 31
 at8 : Def E aj6 (Gn.ar5 av3) Gn.am6 22
 bm7 : Def E aw2 (Gn.bh9 aw2) Gn.ba1 72
 bb8 : Def E as0 (Gn.ay8 aw2 ag2 bn7 ag0) Gn.as2 36
 bf8 : Def E aw7 (Gn.au3 ap2 ai8) Gn.aq5 31
 ax6 : Def E al5 Gn.ap7 Gn.am1 26
 as9 : Def E ah2 (Gn.am2 ah2) Gn.aj4 51
 av9 : Def E aj9 (Gn.an9 ak0 ah2) Gn.ak2 10
 aw0 : Def E ak0 (Gn.ao1 ag4) Gn.ak4 6
class TakR (E : Env) extends bv0 E where
 bf4 : Nat
 bw0 : Def E bf4 (Gn.bi0 aj6) Gn.ba2 11
class AliR (E : Env) extends bv0 E where
 ag5 : Nat
 au2 : Nat
 ao7 : Nat
 be4 : Def E ag5 (Gn.ao0 au2 al5 as0 av3 aj6) Gn.ak3 29
 bk8 : Def E au2 (Gn.at7 ao7) Gn.ap8 13
class LawB (E : Env) extends TakR E where
 an3 : Nat
 ag5 : Nat
 ao3 : Def E an3 (Gn.af7 ag5 aj9 as0 bf4) Gn.ae5 41
end Abs
