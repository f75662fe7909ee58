/- A part. -/
import Derived.Test.YtddgppmcbjjliaaGreatDoorGnX
import Derived.Test.YtddgppmcbjjliaaGreatDoorGnO
import Derived.Test.YtddgppmcbjjliaaGreatDoorDen7
namespace Abs
open Go
class NfaR (E : Env) where
 ag7 : Nat
 ae4 : Nat
 ab8 : Nat
 bd0 : Nat
 as4 : Nat
 ba1 : Nat
 ap0 : Nat
 bk5 : Nat
 cd6 : Nat
 aj8 : Nat
 bv1 : Nat
 ar6 : Nat
 am1 : Nat
 ah8 : Nat
 ah0 : Nat
 ak4 : Nat
 ar5 : Nat
 ae8 : Nat
 am7 : Nat
 ar4 : Nat
 as6 : Nat
 ad8 : DefK E ag7 Gn.ac8 Gn.ac4 8
 ai6 : Def E ae4 (Gn.ad7 ab8) Gn.ad3 42
 ae5 : Def E ab8 Gn.ac7 Gn.ac5 19
 ci6 : Def E bk5 (Gn.bn8 bd0 ap0) Gn.bc9 13
 dn1 : Def E cd6 (Gn.cw7 bd0 as4 aj8) Gn.bu9 20
 bx0 : Def E bv1 (Gn.bs2 bd0 aj8 ba1) Gn.bc7 17
 da0 : Def E bd0 (Gn.ch0 aj8) Gn.bn7 77
 bj3 : Def E ar6 (Gn.ar1 am1) Gn.an1 77
 bf4 : Def E ah8 (Gn.ao3 ah0 ak4) Gn.al1 90
 bj2 : Def E ar5 Gn.ar0 Gn.an0 38
 bf5 : Def E ak4 Gn.ao4 Gn.al2 20
 aq2 : Def E ae8 Gn.ai1 Gn.ag2 26
 az5 : Def E am1 Gn.al0 Gn.ai3 33
 bl5 : Def E aj8 Gn.as2 Gn.an9 37
 bg4 : Def E ap0 (Gn.at6 am7 ag7 ae4) Gn.ao9 11
 bj1 : Def E am7 (Gn.aq8 ar4) Gn.am6 13
 br2 : Def E as4 (Gn.ax8 ap0) Gn.as3 57
 bx1 : Def E ba1 Gn.bc8 Gn.au8 39
 bl6 : Def E as6 Gn.as5 Gn.ao5 16
class DfaR (E : Env) where
 bn9 : Nat
 bk6 : Nat
 ay1 : Nat
 ax9 : Nat
 af4 : Nat
 ab8 : Nat
 ag1 : Nat
 ae8 : Nat
 af5 : Nat
 at2 : Nat
 da2 : Def E bn9 (Gn.ci5 bk6 ay1 ax9 af4) Gn.bo9 51
 cb3 : Def E ay1 (Gn.bj0 ax9) Gn.ay6 9
 cb2 : Def E ax9 Gn.bi9 Gn.ay5 15
 ao6 : Def E af4 (Gn.ae3 ab8) Gn.ad6 9
 ae5 : Def E ab8 Gn.ac7 Gn.ac5 19
 bf3 : Def E ag1 (Gn.ao2 ae8) Gn.ak9 47
 aq2 : Def E ae8 Gn.ai1 Gn.ag2 26
 be0 : Def E af5 Gn.an3 Gn.ai5 21
class SubR (E : Env) extends NfaR E, DfaR E where
 ay0 : Nat
 au9 : Nat
 be8 : Nat
 bv2 : Nat
 am0 : Nat
 ak5 : Nat
 ap8 : Nat
 am8 : Nat
 bp0 : Def E ay0 (Gn.ba8 au9 be8 bv2 bk5 cd6 bd0 bv1) Gn.at7 124
 az4 : Def E am0 (Gn.ak8 ak5 ah8 ar5 ap8) Gn.ai2 90
 da1 : Def E bv2 Gn.ci4 Gn.bo8 23
 bf2 : Def E ap8 (Gn.ao1 ae8) Gn.ak7 19
 at8 : Def E am8 (Gn.ag8 bn9 ay0 as6 af5 at2 ak5 ar6 ag1 am0) Gn.af8 91
end Abs
