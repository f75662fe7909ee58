/- A part. -/
import Derived.Test.YtddgppmcbjjliaaGreatDoorProg
import Derived.Test.YtddgppmcbjjliaaGreatDoorGnO
import Derived.Test.YtddgppmcbjjliaaGreatDoorGnX
import Derived.KernelRfl
namespace Go.Proofs.YtddgppmcbjjliaaGreatDoor
open Go Abs
set_option maxRecDepth 100000
theorem B1 {f : FuncId} {ec : EC} {rs : List ERes} {nt : Nat} (fn : Func) (own : List Nat) (h : Tryz.prog.funcs[f]? = some fn) (h1 : fn.body = some (fn.body.getD .skip) := by kernel_rfl) (h2 : (fn.name == "runtime.NumGoroutine") = false := by kernel_rfl) (h3 : resC Tryz.prog nt own (fn.body.getD .skip) = some ec := by kernel_rfl) (h4 : fn.results.toList.mapM (bl2 Tryz.prog) = some rs := by kernel_rfl) (h5 : fn.ntmps = nt := by kernel_rfl) : Body Tryz.prog f ec rs nt := ⟨fn, _, own, h, h1, h2, h3, h4, h5⟩
variable {γ : Nat → EV} {Ψ : FuncId → List EV → Heap → Option (ER × Heap)}
theorem b3 : Body Tryz.prog 3 (Gn.ag8 14 8 9 12 6 7 10 11 13) Gn.af8 91 := B1 Tryz.f3 [] Tryz.func3
theorem b6 : Body Tryz.prog 6 (Gn.bi2 24 8 29 30 28) Gn.bd6 45 := B1 Tryz.f6 [] Tryz.func6
theorem b7 : Body Tryz.prog 7 (Gn.as7 31) Gn.al3 44 := B1 Tryz.f7 [] Tryz.func7
theorem b8 : Body Tryz.prog 8 (Gn.ba8 34 33 37 35 36 32 38) Gn.at7 124 := B1 Tryz.f8 [25, 46] Tryz.func8
theorem b9 : Body Tryz.prog 9 Gn.as5 Gn.ao5 16 := B1 Tryz.f9 [] Tryz.func9
theorem b10 : Body Tryz.prog 10 (Gn.ar1 39) Gn.an1 77 := B1 Tryz.f10 [] Tryz.func10
theorem b11 : Body Tryz.prog 11 (Gn.ao2 30) Gn.ak9 47 := B1 Tryz.f11 [] Tryz.func11
theorem b12 : Body Tryz.prog 12 Gn.an3 Gn.ai5 21 := B1 Tryz.f12 [] Tryz.func12
theorem b13 : Body Tryz.prog 13 (Gn.ak8 7 40 42 41) Gn.ai2 90 := B1 Tryz.f13 [17, 19] Tryz.func13
theorem b14 : Body Tryz.prog 14 (Gn.ci5 43 46 44 45) Gn.bo9 51 := B1 Tryz.f14 [] Tryz.func14
theorem b24 : Body Tryz.prog 24 (Gn.ek2 51 14) Gn.cz3 29 := B1 Tryz.f24 [] Tryz.func24
theorem b28 : Body Tryz.prog 28 (Gn.cw8 53 56 55 57 52) Gn.ch1 103 := B1 Tryz.f28 [] Tryz.func28
theorem b29 : Body Tryz.prog 29 (Gn.bd5 58) Gn.ay4 36 := B1 Tryz.f29 [] Tryz.func29
theorem b30 : Body Tryz.prog 30 Gn.ai1 Gn.ag2 26 := B1 Tryz.f30 [] Tryz.func30
theorem b31 : Body Tryz.prog 31 (Gn.ar8 59) Gn.af6 27 := B1 Tryz.f31 [] Tryz.func31
theorem b32 : Body Tryz.prog 32 (Gn.ch0 60) Gn.bn7 77 := B1 Tryz.f32 [] Tryz.func32
theorem b33 : Body Tryz.prog 33 (Gn.bq3 62 61) Gn.ay7 19 := B1 Tryz.f33 [] Tryz.func33
theorem b34 : Body Tryz.prog 34 (Gn.bk9 65 64) Gn.av4 9 := B1 Tryz.f34 [] Tryz.func34
theorem b35 : Body Tryz.prog 35 (Gn.bn8 32 66) Gn.bc9 13 := B1 Tryz.f35 [] Tryz.func35
theorem b36 : Body Tryz.prog 36 (Gn.cw7 32 67 60) Gn.bu9 20 := B1 Tryz.f36 [] Tryz.func36
theorem b37 : Body Tryz.prog 37 Gn.ci4 Gn.bo8 23 := B1 Tryz.f37 [] Tryz.func37
theorem b38 : Body Tryz.prog 38 (Gn.bs2 32 60 68) Gn.bc7 17 := B1 Tryz.f38 [] Tryz.func38
theorem b39 : Body Tryz.prog 39 Gn.al0 Gn.ai3 33 := B1 Tryz.f39 [] Tryz.func39
theorem b40 : Body Tryz.prog 40 (Gn.ao3 59 69) Gn.al1 90 := B1 Tryz.f40 [] Tryz.func40
theorem b41 : Body Tryz.prog 41 (Gn.ao1 30) Gn.ak7 19 := B1 Tryz.f41 [] Tryz.func41
theorem b42 : Body Tryz.prog 42 Gn.ar0 Gn.an0 38 := B1 Tryz.f42 [] Tryz.func42
theorem b43 : Body Tryz.prog 43 (Gn.bx3 70 61) Gn.be2 7 := B1 Tryz.f43 [] Tryz.func43
theorem b44 : Body Tryz.prog 44 Gn.bi9 Gn.ay5 15 := B1 Tryz.f44 [] Tryz.func44
theorem b45 : Body Tryz.prog 45 (Gn.ae3 71) Gn.ad6 9 := B1 Tryz.f45 [] Tryz.func45
theorem b46 : Body Tryz.prog 46 (Gn.bj0 44) Gn.ay6 9 := B1 Tryz.f46 [] Tryz.func46
theorem b51 : Body Tryz.prog 51 (Gn.cb1 44) Gn.br1 26 := B1 Tryz.f51 [] Tryz.func51
theorem b52 : Body Tryz.prog 52 (Gn.ak3 73) Gn.ai4 9 := B1 Tryz.f52 [] Tryz.func52
theorem b53 : Body Tryz.prog 53 (Gn.ca5 54) Gn.bq9 6 := B1 Tryz.f53 [] Tryz.func53
theorem b54 : Body Tryz.prog 54 (Gn.ex9 75 74) Gn.dj0 18 := B1 Tryz.f54 [] Tryz.func54
theorem b55 : Body Tryz.prog 55 (Gn.cn0 76 55) Gn.ca3 31 := B1 Tryz.f55 [] Tryz.func55
theorem b56 : Body Tryz.prog 56 (Gn.bn5 77 80 79 56 78) Gn.bh5 75 := B1 Tryz.f56 [64, 65] Tryz.func56
theorem b57 : Body Tryz.prog 57 (Gn.cw6 82 81) Gn.cg9 24 := B1 Tryz.f57 [] Tryz.func57
theorem b58 : Body Tryz.prog 58 (Gn.bi1 83) Gn.bd4 17 := B1 Tryz.f58 [] Tryz.func58
theorem b59 : Body Tryz.prog 59 Gn.av1 Gn.an2 22 := B1 Tryz.f59 [] Tryz.func59
theorem b60 : Body Tryz.prog 60 Gn.as2 Gn.an9 37 := B1 Tryz.f60 [] Tryz.func60
theorem b61 : Body Tryz.prog 61 Gn.ar9 Gn.ai7 40 := B1 Tryz.f61 [] Tryz.func61
theorem b62 : Body Tryz.prog 62 (Gn.av3 63) Gn.ah5 21 := B1 Tryz.f62 [] Tryz.func62
theorem b63 : Body Tryz.prog 63 (Gn.cd4 84 85) Gn.bh3 12 := B1 Tryz.f63 [] Tryz.func63
theorem b64 : Body Tryz.prog 64 (Gn.bu5 86) Gn.bc3 15 := B1 Tryz.f64 [] Tryz.func64
theorem b65 : Body Tryz.prog 65 (Gn.ba4 43 87 85) Gn.ai8 29 := B1 Tryz.f65 [] Tryz.func65
theorem b66 : Body Tryz.prog 66 (Gn.at6 90 89 88) Gn.ao9 11 := B1 Tryz.f66 [] Tryz.func66
theorem b67 : Body Tryz.prog 67 (Gn.ax8 66) Gn.as3 57 := B1 Tryz.f67 [] Tryz.func67
theorem b68 : Body Tryz.prog 68 Gn.bc8 Gn.au8 39 := B1 Tryz.f68 [] Tryz.func68
theorem b69 : Body Tryz.prog 69 Gn.ao4 Gn.al2 20 := B1 Tryz.f69 [] Tryz.func69
theorem b70 : Body Tryz.prog 70 Gn.ay8 Gn.ap2 10 := B1 Tryz.f70 [] Tryz.func70
theorem b71 : Body Tryz.prog 71 Gn.ac7 Gn.ac5 19 := B1 Tryz.f71 [] Tryz.func71
theorem b73 : Body Tryz.prog 73 Gn.an5 Gn.al9 19 := B1 Tryz.f73 [] Tryz.func73
theorem b74 : Body Tryz.prog 74 (Gn.cv1 91) Gn.cf0 10 := B1 Tryz.f74 [] Tryz.func74
theorem b75 : Body Tryz.prog 75 (Gn.di8 92 93 52) Gn.cl6 11 := B1 Tryz.f75 [] Tryz.func75
theorem b76 : Body Tryz.prog 76 Gn.cn1 Gn.ca4 11 := B1 Tryz.f76 [] Tryz.func76
theorem b77 : Body Tryz.prog 77 Gn.bl3 Gn.be7 66 := B1 Tryz.f77 [] Tryz.func77
theorem b78 : Body Tryz.prog 78 (Gn.bu8 57) Gn.bn4 24 := B1 Tryz.f78 [] Tryz.func78
theorem b79 : Body Tryz.prog 79 (Gn.bn6 94 57) Gn.bh6 56 := B1 Tryz.f79 [] Tryz.func79
theorem b80 : Body Tryz.prog 80 (Gn.bh7 95 76 94 79 56 55) Gn.bc5 124 := B1 Tryz.f80 [55, 105] Tryz.func80
theorem b81 : Body Tryz.prog 81 (Gn.bb5 97 96) Gn.ax5 11 := B1 Tryz.f81 [] Tryz.func81
theorem b82 : Body Tryz.prog 82 Gn.av9 Gn.at4 61 := B1 Tryz.f82 [] Tryz.func82
theorem b83 : Body Tryz.prog 83 Gn.bl4 Gn.bf0 27 := B1 Tryz.f83 [] Tryz.func83
theorem b84 : Body Tryz.prog 84 (Gn.bn3 99 98) Gn.aw4 8 := B1 Tryz.f84 [] Tryz.func84
theorem b85 : Body Tryz.prog 85 Gn.by1 Gn.bc2 23 := B1 Tryz.f85 [] Tryz.func85
theorem b86 : Body Tryz.prog 86 (Gn.cd3 100) Gn.bp8 4 := B1 Tryz.f86 [] Tryz.func86
theorem b87 : Body Tryz.prog 87 (Gn.cd5 102 98) Gn.bh4 8 := B1 Tryz.f87 [] Tryz.func87
theorem b88 : Body Tryz.prog 88 (Gn.ad7 71) Gn.ad3 42 := B1 Tryz.f88 [] Tryz.func88
theorem b89 : Body Tryz.prog 89 Gn.ac8 Gn.ac4 8 := B1 Tryz.f89 [] Tryz.func89
theorem b90 : Body Tryz.prog 90 (Gn.aq8 63) Gn.am6 13 := B1 Tryz.f90 [] Tryz.func90
theorem b91 : Body Tryz.prog 91 (Gn.bz8 91) Gn.bq8 39 := B1 Tryz.f91 [] Tryz.func91
theorem b92 : Body Tryz.prog 92 (Gn.dz0 103) Gn.cv2 71 := B1 Tryz.f92 [] Tryz.func92
theorem b93 : Body Tryz.prog 93 (Gn.cf2 75) Gn.bt4 6 := B1 Tryz.f93 [] Tryz.func93
theorem b94 : Body Tryz.prog 94 (Gn.bh8 57) Gn.bc6 32 := B1 Tryz.f94 [] Tryz.func94
theorem b95 : Body Tryz.prog 95 (Gn.dk7 104) Gn.cn2 6 := B1 Tryz.f95 [] Tryz.func95
theorem b96 : Body Tryz.prog 96 (Gn.as0 111 107 108 106 105 110 112 113 96 109) Gn.aq5 134 := B1 Tryz.f96 [] Tryz.func96
theorem b97 : Body Tryz.prog 97 (Gn.bv5 114 115) Gn.bo0 8 := B1 Tryz.f97 [] Tryz.func97
theorem b98 : Body Tryz.prog 98 Gn.bc0 Gn.aq7 23 := B1 Tryz.f98 [] Tryz.func98
theorem b99 : Body Tryz.prog 99 Gn.at5 Gn.as1 8 := B1 Tryz.f99 [] Tryz.func99
theorem b100 : Body Tryz.prog 100 (Gn.bc1 101) Gn.az9 26 := B1 Tryz.f100 [] Tryz.func100
theorem b101 : Body Tryz.prog 101 (Gn.af2 0) Gn.ad4 14 := B1 Tryz.f101 [] Tryz.func101
theorem b102 : Body Tryz.prog 102 Gn.bc4 Gn.ba0 8 := B1 Tryz.f102 [] Tryz.func102
theorem b103 : Body Tryz.prog 103 Gn.cv3 Gn.cf3 15 := B1 Tryz.f103 [] Tryz.func103
theorem b104 : Body Tryz.prog 104 (Gn.dj1 116) Gn.cl8 12 := B1 Tryz.f104 [] Tryz.func104
theorem b105 : Body Tryz.prog 105 (Gn.am5 111) Gn.ak2 49 := B1 Tryz.f105 [] Tryz.func105
theorem b111 : Body Tryz.prog 111 (Gn.cb4 122) Gn.br3 17 := B1 Tryz.f111 [] Tryz.func111
theorem b114 : Body Tryz.prog 114 Gn.bo2 Gn.bi0 19 := B1 Tryz.f114 [] Tryz.func114
theorem b115 : Body Tryz.prog 115 Gn.bo1 Gn.bh9 25 := B1 Tryz.f115 [] Tryz.func115
theorem b116 : Body Tryz.prog 116 (Gn.di9 54 123) Gn.cl7 10 := B1 Tryz.f116 [] Tryz.func116
theorem b122 : Body Tryz.prog 122 Gn.bx2 Gn.bp1 6 := B1 Tryz.f122 [] Tryz.func122
theorem b123 : Body Tryz.prog 123 (Gn.fh5 126 125 123 127) Gn.dy9 60 := B1 Tryz.f123 [] Tryz.func123
theorem b125 : Body Tryz.prog 125 (Gn.bt5 87) Gn.bm5 41 := B1 Tryz.f125 [] Tryz.func125
theorem b127 : Body Tryz.prog 127 Gn.cf1 Gn.bt3 25 := B1 Tryz.f127 [] Tryz.func127
def tabT : List (Nat × FnD) := [(3, ⟨(Gn.ag8 14 8 9 12 6 7 10 11 13), Gn.af8, 91⟩), (6, ⟨(Gn.bi2 24 8 29 30 28), Gn.bd6, 45⟩), (7, ⟨(Gn.as7 31), Gn.al3, 44⟩), (8, ⟨(Gn.ba8 34 33 37 35 36 32 38), Gn.at7, 124⟩), (9, ⟨Gn.as5, Gn.ao5, 16⟩), (10, ⟨(Gn.ar1 39), Gn.an1, 77⟩), (11, ⟨(Gn.ao2 30), Gn.ak9, 47⟩), (12, ⟨Gn.an3, Gn.ai5, 21⟩), (13, ⟨(Gn.ak8 7 40 42 41), Gn.ai2, 90⟩), (14, ⟨(Gn.ci5 43 46 44 45), Gn.bo9, 51⟩), (24, ⟨(Gn.ek2 51 14), Gn.cz3, 29⟩), (28, ⟨(Gn.cw8 53 56 55 57 52), Gn.ch1, 103⟩), (29, ⟨(Gn.bd5 58), Gn.ay4, 36⟩), (30, ⟨Gn.ai1, Gn.ag2, 26⟩), (31, ⟨(Gn.ar8 59), Gn.af6, 27⟩), (32, ⟨(Gn.ch0 60), Gn.bn7, 77⟩), (33, ⟨(Gn.bq3 62 61), Gn.ay7, 19⟩), (34, ⟨(Gn.bk9 65 64), Gn.av4, 9⟩), (35, ⟨(Gn.bn8 32 66), Gn.bc9, 13⟩), (36, ⟨(Gn.cw7 32 67 60), Gn.bu9, 20⟩), (37, ⟨Gn.ci4, Gn.bo8, 23⟩), (38, ⟨(Gn.bs2 32 60 68), Gn.bc7, 17⟩), (39, ⟨Gn.al0, Gn.ai3, 33⟩), (40, ⟨(Gn.ao3 59 69), Gn.al1, 90⟩), (41, ⟨(Gn.ao1 30), Gn.ak7, 19⟩), (42, ⟨Gn.ar0, Gn.an0, 38⟩), (43, ⟨(Gn.bx3 70 61), Gn.be2, 7⟩), (44, ⟨Gn.bi9, Gn.ay5, 15⟩), (45, ⟨(Gn.ae3 71), Gn.ad6, 9⟩), (46, ⟨(Gn.bj0 44), Gn.ay6, 9⟩), (51, ⟨(Gn.cb1 44), Gn.br1, 26⟩), (52, ⟨(Gn.ak3 73), Gn.ai4, 9⟩), (53, ⟨(Gn.ca5 54), Gn.bq9, 6⟩), (54, ⟨(Gn.ex9 75 74), Gn.dj0, 18⟩), (55, ⟨(Gn.cn0 76 55), Gn.ca3, 31⟩), (56, ⟨(Gn.bn5 77 80 79 56 78), Gn.bh5, 75⟩), (57, ⟨(Gn.cw6 82 81), Gn.cg9, 24⟩), (58, ⟨(Gn.bi1 83), Gn.bd4, 17⟩), (59, ⟨Gn.av1, Gn.an2, 22⟩), (60, ⟨Gn.as2, Gn.an9, 37⟩), (61, ⟨Gn.ar9, Gn.ai7, 40⟩), (62, ⟨(Gn.av3 63), Gn.ah5, 21⟩), (63, ⟨(Gn.cd4 84 85), Gn.bh3, 12⟩), (64, ⟨(Gn.bu5 86), Gn.bc3, 15⟩), (65, ⟨(Gn.ba4 43 87 85), Gn.ai8, 29⟩), (66, ⟨(Gn.at6 90 89 88), Gn.ao9, 11⟩), (67, ⟨(Gn.ax8 66), Gn.as3, 57⟩), (68, ⟨Gn.bc8, Gn.au8, 39⟩), (69, ⟨Gn.ao4, Gn.al2, 20⟩), (70, ⟨Gn.ay8, Gn.ap2, 10⟩), (71, ⟨Gn.ac7, Gn.ac5, 19⟩), (73, ⟨Gn.an5, Gn.al9, 19⟩), (74, ⟨(Gn.cv1 91), Gn.cf0, 10⟩), (75, ⟨(Gn.di8 92 93 52), Gn.cl6, 11⟩), (76, ⟨Gn.cn1, Gn.ca4, 11⟩), (77, ⟨Gn.bl3, Gn.be7, 66⟩), (78, ⟨(Gn.bu8 57), Gn.bn4, 24⟩), (79, ⟨(Gn.bn6 94 57), Gn.bh6, 56⟩), (80, ⟨(Gn.bh7 95 76 94 79 56 55), Gn.bc5, 124⟩), (81, ⟨(Gn.bb5 97 96), Gn.ax5, 11⟩), (82, ⟨Gn.av9, Gn.at4, 61⟩), (83, ⟨Gn.bl4, Gn.bf0, 27⟩), (84, ⟨(Gn.bn3 99 98), Gn.aw4, 8⟩), (85, ⟨Gn.by1, Gn.bc2, 23⟩), (86, ⟨(Gn.cd3 100), Gn.bp8, 4⟩), (87, ⟨(Gn.cd5 102 98), Gn.bh4, 8⟩), (88, ⟨(Gn.ad7 71), Gn.ad3, 42⟩), (89, ⟨Gn.ac8, Gn.ac4, 8⟩), (90, ⟨(Gn.aq8 63), Gn.am6, 13⟩), (91, ⟨(Gn.bz8 91), Gn.bq8, 39⟩), (92, ⟨(Gn.dz0 103), Gn.cv2, 71⟩), (93, ⟨(Gn.cf2 75), Gn.bt4, 6⟩), (94, ⟨(Gn.bh8 57), Gn.bc6, 32⟩), (95, ⟨(Gn.dk7 104), Gn.cn2, 6⟩), (96, ⟨(Gn.as0 111 107 108 106 105 110 112 113 96 109), Gn.aq5, 134⟩), (97, ⟨(Gn.bv5 114 115), Gn.bo0, 8⟩), (98, ⟨Gn.bc0, Gn.aq7, 23⟩), (99, ⟨Gn.at5, Gn.as1, 8⟩), (100, ⟨(Gn.bc1 101), Gn.az9, 26⟩), (101, ⟨(Gn.af2 0), Gn.ad4, 14⟩), (102, ⟨Gn.bc4, Gn.ba0, 8⟩), (103, ⟨Gn.cv3, Gn.cf3, 15⟩), (104, ⟨(Gn.dj1 116), Gn.cl8, 12⟩), (105, ⟨(Gn.am5 111), Gn.ak2, 49⟩), (111, ⟨(Gn.cb4 122), Gn.br3, 17⟩), (114, ⟨Gn.bo2, Gn.bi0, 19⟩), (115, ⟨Gn.bo1, Gn.bh9, 25⟩), (116, ⟨(Gn.di9 54 123), Gn.cl7, 10⟩), (122, ⟨Gn.bx2, Gn.bp1, 6⟩), (123, ⟨(Gn.fh5 126 125 123 127), Gn.dy9, 60⟩), (125, ⟨(Gn.bt5 87), Gn.bm5, 41⟩), (127, ⟨Gn.cf1, Gn.bt3, 25⟩)]
theorem tabT_ok : AllT (fun f d => Body Tryz.prog f d.ec d.rs d.nt) tabT := ⟨b3, ⟨b6, ⟨b7, ⟨b8, ⟨b9, ⟨b10, ⟨b11, ⟨b12, ⟨b13, ⟨b14, ⟨b24, ⟨b28, ⟨b29, ⟨b30, ⟨b31, ⟨b32, ⟨b33, ⟨b34, ⟨b35, ⟨b36, ⟨b37, ⟨b38, ⟨b39, ⟨b40, ⟨b41, ⟨b42, ⟨b43, ⟨b44, ⟨b45, ⟨b46, ⟨b51, ⟨b52, ⟨b53, ⟨b54, ⟨b55, ⟨b56, ⟨b57, ⟨b58, ⟨b59, ⟨b60, ⟨b61, ⟨b62, ⟨b63, ⟨b64, ⟨b65, ⟨b66, ⟨b67, ⟨b68, ⟨b69, ⟨b70, ⟨b71, ⟨b73, ⟨b74, ⟨b75, ⟨b76, ⟨b77, ⟨b78, ⟨b79, ⟨b80, ⟨b81, ⟨b82, ⟨b83, ⟨b84, ⟨b85, ⟨b86, ⟨b87, ⟨b88, ⟨b89, ⟨b90, ⟨b91, ⟨b92, ⟨b93, ⟨b94, ⟨b95, ⟨b96, ⟨b97, ⟨b98, ⟨b99, ⟨b100, ⟨b101, ⟨b102, ⟨b103, ⟨b104, ⟨b105, ⟨b111, ⟨b114, ⟨b115, ⟨b116, ⟨b122, ⟨b123, ⟨b125, ⟨b127, trivial⟩⟩⟩⟩⟩⟩⟩⟩⟩⟩⟩⟩⟩⟩⟩⟩⟩⟩⟩⟩⟩⟩⟩⟩⟩⟩⟩⟩⟩⟩⟩⟩⟩⟩⟩⟩⟩⟩⟩⟩⟩⟩⟩⟩⟩⟩⟩⟩⟩⟩⟩⟩⟩⟩⟩⟩⟩⟩⟩⟩⟩⟩⟩⟩⟩⟩⟩⟩⟩⟩⟩⟩⟩⟩⟩⟩⟩⟩⟩⟩⟩⟩⟩⟩⟩⟩⟩⟩⟩⟩⟩⟩
def tabF : List (Nat × FnE) := []
theorem tabF_ok : AllT (fun f d => fg6 Tryz.prog f d.ef d.rs d.nt) tabF := trivial
def tabD : List (Nat × FnDf) := []
theorem tabD_ok : AllT (fun f d => ex5 Tryz.prog f d.d0 d.d1 d.ec d.nt) tabD := trivial
def kept : List Nat := [89]
def env (γ : Nat → EV) (Ψ : FuncId → List EV → Heap → Option (ER × Heap)) : Env := ⟨Abs.look tabT, Abs.look tabF, Abs.look tabD, γ, Ψ, kept.contains⟩
theorem d3 (h : ∀ xs H, Ψ 3 xs H = none) : Def (env γ Ψ) 3 (Gn.ag8 14 8 9 12 6 7 10 11 13) Gn.af8 91 := ⟨by kernel_rfl, h, by kernel_rfl⟩
theorem d8 (h : ∀ xs H, Ψ 8 xs H = none) : Def (env γ Ψ) 8 (Gn.ba8 34 33 37 35 36 32 38) Gn.at7 124 := ⟨by kernel_rfl, h, by kernel_rfl⟩
theorem d9 (h : ∀ xs H, Ψ 9 xs H = none) : Def (env γ Ψ) 9 Gn.as5 Gn.ao5 16 := ⟨by kernel_rfl, h, by kernel_rfl⟩
theorem d10 (h : ∀ xs H, Ψ 10 xs H = none) : Def (env γ Ψ) 10 (Gn.ar1 39) Gn.an1 77 := ⟨by kernel_rfl, h, by kernel_rfl⟩
theorem d11 (h : ∀ xs H, Ψ 11 xs H = none) : Def (env γ Ψ) 11 (Gn.ao2 30) Gn.ak9 47 := ⟨by kernel_rfl, h, by kernel_rfl⟩
theorem d12 (h : ∀ xs H, Ψ 12 xs H = none) : Def (env γ Ψ) 12 Gn.an3 Gn.ai5 21 := ⟨by kernel_rfl, h, by kernel_rfl⟩
theorem d13 (h : ∀ xs H, Ψ 13 xs H = none) : Def (env γ Ψ) 13 (Gn.ak8 7 40 42 41) Gn.ai2 90 := ⟨by kernel_rfl, h, by kernel_rfl⟩
theorem d14 (h : ∀ xs H, Ψ 14 xs H = none) : Def (env γ Ψ) 14 (Gn.ci5 43 46 44 45) Gn.bo9 51 := ⟨by kernel_rfl, h, by kernel_rfl⟩
theorem d30 (h : ∀ xs H, Ψ 30 xs H = none) : Def (env γ Ψ) 30 Gn.ai1 Gn.ag2 26 := ⟨by kernel_rfl, h, by kernel_rfl⟩
theorem d32 (h : ∀ xs H, Ψ 32 xs H = none) : Def (env γ Ψ) 32 (Gn.ch0 60) Gn.bn7 77 := ⟨by kernel_rfl, h, by kernel_rfl⟩
theorem d35 (h : ∀ xs H, Ψ 35 xs H = none) : Def (env γ Ψ) 35 (Gn.bn8 32 66) Gn.bc9 13 := ⟨by kernel_rfl, h, by kernel_rfl⟩
theorem d36 (h : ∀ xs H, Ψ 36 xs H = none) : Def (env γ Ψ) 36 (Gn.cw7 32 67 60) Gn.bu9 20 := ⟨by kernel_rfl, h, by kernel_rfl⟩
theorem d37 (h : ∀ xs H, Ψ 37 xs H = none) : Def (env γ Ψ) 37 Gn.ci4 Gn.bo8 23 := ⟨by kernel_rfl, h, by kernel_rfl⟩
theorem d38 (h : ∀ xs H, Ψ 38 xs H = none) : Def (env γ Ψ) 38 (Gn.bs2 32 60 68) Gn.bc7 17 := ⟨by kernel_rfl, h, by kernel_rfl⟩
theorem d39 (h : ∀ xs H, Ψ 39 xs H = none) : Def (env γ Ψ) 39 Gn.al0 Gn.ai3 33 := ⟨by kernel_rfl, h, by kernel_rfl⟩
theorem d40 (h : ∀ xs H, Ψ 40 xs H = none) : Def (env γ Ψ) 40 (Gn.ao3 59 69) Gn.al1 90 := ⟨by kernel_rfl, h, by kernel_rfl⟩
theorem d41 (h : ∀ xs H, Ψ 41 xs H = none) : Def (env γ Ψ) 41 (Gn.ao1 30) Gn.ak7 19 := ⟨by kernel_rfl, h, by kernel_rfl⟩
theorem d42 (h : ∀ xs H, Ψ 42 xs H = none) : Def (env γ Ψ) 42 Gn.ar0 Gn.an0 38 := ⟨by kernel_rfl, h, by kernel_rfl⟩
theorem d44 (h : ∀ xs H, Ψ 44 xs H = none) : Def (env γ Ψ) 44 Gn.bi9 Gn.ay5 15 := ⟨by kernel_rfl, h, by kernel_rfl⟩
theorem d45 (h : ∀ xs H, Ψ 45 xs H = none) : Def (env γ Ψ) 45 (Gn.ae3 71) Gn.ad6 9 := ⟨by kernel_rfl, h, by kernel_rfl⟩
theorem d46 (h : ∀ xs H, Ψ 46 xs H = none) : Def (env γ Ψ) 46 (Gn.bj0 44) Gn.ay6 9 := ⟨by kernel_rfl, h, by kernel_rfl⟩
theorem d60 (h : ∀ xs H, Ψ 60 xs H = none) : Def (env γ Ψ) 60 Gn.as2 Gn.an9 37 := ⟨by kernel_rfl, h, by kernel_rfl⟩
theorem d66 (h : ∀ xs H, Ψ 66 xs H = none) : Def (env γ Ψ) 66 (Gn.at6 90 89 88) Gn.ao9 11 := ⟨by kernel_rfl, h, by kernel_rfl⟩
theorem d67 (h : ∀ xs H, Ψ 67 xs H = none) : Def (env γ Ψ) 67 (Gn.ax8 66) Gn.as3 57 := ⟨by kernel_rfl, h, by kernel_rfl⟩
theorem d68 (h : ∀ xs H, Ψ 68 xs H = none) : Def (env γ Ψ) 68 Gn.bc8 Gn.au8 39 := ⟨by kernel_rfl, h, by kernel_rfl⟩
theorem d69 (h : ∀ xs H, Ψ 69 xs H = none) : Def (env γ Ψ) 69 Gn.ao4 Gn.al2 20 := ⟨by kernel_rfl, h, by kernel_rfl⟩
theorem d71 (h : ∀ xs H, Ψ 71 xs H = none) : Def (env γ Ψ) 71 Gn.ac7 Gn.ac5 19 := ⟨by kernel_rfl, h, by kernel_rfl⟩
theorem d88 (h : ∀ xs H, Ψ 88 xs H = none) : Def (env γ Ψ) 88 (Gn.ad7 71) Gn.ad3 42 := ⟨by kernel_rfl, h, by kernel_rfl⟩
theorem d89 (h : ∀ xs H, Ψ 89 xs H = none) : DefK (env γ Ψ) 89 Gn.ac8 Gn.ac4 8 := ⟨by kernel_rfl, h, by kernel_rfl⟩
theorem d90 (h : ∀ xs H, Ψ 90 xs H = none) : Def (env γ Ψ) 90 (Gn.aq8 63) Gn.am6 13 := ⟨by kernel_rfl, h, by kernel_rfl⟩
theorem cz0 {γ : Nat → EV} {Ψ : FuncId → List EV → Heap → Option (ER × Heap)} (h : ∀ f xs H r, Ψ f xs H = some r → CallsA Tryz.prog γ f xs H fun er H' => er = r.1 ∧ H' = r.2) : (env γ Ψ).Sound Tryz.prog :=
 ⟨fun f d h => tabT_ok.look h, fun f d h => tabF_ok.look h, fun f d h => tabD_ok.look h, h⟩
end Go.Proofs.YtddgppmcbjjliaaGreatDoor
