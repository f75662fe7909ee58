/- A part. -/
import Derived.Test.YtdcjkdgjlljodaaProg
import Derived.Test.YtdcjkdgjlljodaaGnX
import Derived.Test.YtdcjkdgjlljodaaGnO
import Derived.KernelRfl
set_option linter.all false
namespace Go.Proofs.Ytdcjkdgjlljodaa
open Go Abs
set_option maxRecDepth 100000
theorem B1 {f : FuncId} {ec : EC} {rs : List ERes} {nt : Nat} (fn : Func) (own : List Nat) (h : Try.prog.funcs[f]? = some fn) (h1 : fn.body = some (fn.body.getD .skip) := by kernel_rfl) (h2 : (fn.name == "runtime.NumGoroutine") = false := by kernel_rfl) (h3 : resC Try.prog nt own (fn.body.getD .skip) = some ec := by kernel_rfl) (h4 : fn.results.toList.mapM (bj5 Try.prog) = some rs := by kernel_rfl) (h5 : fn.ntmps = nt := by kernel_rfl) : Body Try.prog f ec rs nt := ⟨fn, _, own, h, h1, h2, h3, h4, h5⟩
variable {γ : Nat → EV} {Ψ : FuncId → List EV → Heap → Option (ER × Heap)}
theorem b6 : Body Try.prog 6 (Gn.ai0 7 8 21 20 13) Gn.ag5 92 := B1 Try.f6 [] Try.func6
theorem b7 : Body Try.prog 7 (Gn.an3 22 11 14 9 15) Gn.aj8 29 := B1 Try.f7 [] Try.func7
theorem b8 : Body Try.prog 8 (Gn.an2 23 24) Gn.aj7 10 := B1 Try.f8 [] Try.func8
theorem b9 : Body Try.prog 9 (Gn.bc6 27 25 26) Gn.at9 31 := B1 Try.f9 [] Try.func9
theorem b10 : Body Try.prog 10 (Gn.av6 21 20 28) Gn.ar3 15 := B1 Try.f10 [] Try.func10
theorem b11 : Body Try.prog 11 Gn.ap0 Gn.al4 26 := B1 Try.f11 [] Try.func11
theorem b12 : Body Try.prog 12 (Gn.as8 19 29) Gn.ap7 31 := B1 Try.f12 [] Try.func12
theorem b13 : Body Try.prog 13 (Gn.bg9 15) Gn.az3 11 := B1 Try.f13 [] Try.func13
theorem b14 : Body Try.prog 14 (Gn.ax6 30 27 25 31) Gn.ar1 36 := B1 Try.f14 [] Try.func14
theorem b15 : Body Try.prog 15 (Gn.aq6 9) Gn.am0 22 := B1 Try.f15 [] Try.func15
theorem b16 : Body Try.prog 16 (Gn.ar2 19 29) Gn.ao2 14 := B1 Try.f16 [] Try.func16
theorem b19 : Body Try.prog 19 Gn.ay6 Gn.at1 14 := B1 Try.f19 [] Try.func19
theorem b20 : Body Try.prog 20 (Gn.an0 20) Gn.aj6 21 := B1 Try.f20 [] Try.func20
theorem b21 : Body Try.prog 21 (Gn.ap1 21) Gn.al5 25 := B1 Try.f21 [] Try.func21
theorem b22 : Body Try.prog 22 (Gn.as3 34) Gn.ap2 13 := B1 Try.f22 [] Try.func22
theorem b23 : Body Try.prog 23 (Gn.an4 20) Gn.aj9 6 := B1 Try.f23 [] Try.func23
theorem b24 : Body Try.prog 24 (Gn.al6 24) Gn.ai8 51 := B1 Try.f24 [] Try.func24
theorem b25 : Body Try.prog 25 (Gn.cl5 36 35) Gn.bp7 18 := B1 Try.f25 [] Try.func25
theorem b26 : Body Try.prog 26 Gn.ab2 Gn.aa7 8 := B1 Try.f26 [] Try.func26
theorem b27 : Body Try.prog 27 (Gn.as1 38 37 27 39) Gn.ao7 63 := B1 Try.f27 [] Try.func27
theorem b28 : Body Try.prog 28 (Gn.as9 28) Gn.ap8 89 := B1 Try.f28 [] Try.func28
theorem b29 : Body Try.prog 29 (Gn.at0 32 29) Gn.ap9 159 := B1 Try.f29 [] Try.func29
theorem b30 : Body Try.prog 30 (Gn.bg8 30) Gn.az2 72 := B1 Try.f30 [] Try.func30
theorem b31 : Body Try.prog 31 (Gn.ag3 40) Gn.af4 9 := B1 Try.f31 [] Try.func31
theorem b32 : Body Try.prog 32 Gn.av7 Gn.an1 22 := B1 Try.f32 [] Try.func32
theorem b34 : Body Try.prog 34 (Gn.bh1 41) Gn.bc7 17 := B1 Try.f34 [] Try.func34
theorem b35 : Body Try.prog 35 (Gn.bk6 42) Gn.bb6 10 := B1 Try.f35 [] Try.func35
theorem b36 : Body Try.prog 36 (Gn.bp6 43 45 44) Gn.bg2 11 := B1 Try.f36 [] Try.func36
theorem b37 : Body Try.prog 37 (Gn.as2 46) Gn.ao8 50 := B1 Try.f37 [] Try.func37
theorem b38 : Body Try.prog 38 (Gn.am8 49 47 48) Gn.aj1 14 := B1 Try.f38 [] Try.func38
theorem b39 : Body Try.prog 39 (Gn.ao6 50 38 27) Gn.al1 57 := B1 Try.f39 [] Try.func39
theorem b40 : Body Try.prog 40 Gn.ai7 Gn.ah3 19 := B1 Try.f40 [] Try.func40
theorem b41 : Body Try.prog 41 Gn.bj6 Gn.be3 27 := B1 Try.f41 [] Try.func41
theorem b42 : Body Try.prog 42 (Gn.ay9 42) Gn.ar8 39 := B1 Try.f42 [] Try.func42
theorem b43 : Body Try.prog 43 (Gn.bx7 51) Gn.bk7 71 := B1 Try.f43 [] Try.func43
theorem b44 : Body Try.prog 44 (Gn.ac3 52) Gn.ab8 9 := B1 Try.f44 [] Try.func44
theorem b45 : Body Try.prog 45 (Gn.bb7 36) Gn.av0 6 := B1 Try.f45 [] Try.func45
theorem b46 : Body Try.prog 46 (Gn.bw7 53 54) Gn.bg7 12 := B1 Try.f46 [] Try.func46
theorem b47 : Body Try.prog 47 (Gn.ag1 55 9) Gn.ae5 36 := B1 Try.f47 [] Try.func47
theorem b49 : Body Try.prog 49 Gn.af3 Gn.ae2 61 := B1 Try.f49 [] Try.func49
theorem b50 : Body Try.prog 50 (Gn.ar0 59 26 58) Gn.am9 9 := B1 Try.f50 [] Try.func50
theorem b51 : Body Try.prog 51 Gn.bk8 Gn.bb8 15 := B1 Try.f51 [] Try.func51
theorem b52 : Body Try.prog 52 Gn.ad4 Gn.ac6 19 := B1 Try.f52 [] Try.func52
theorem b53 : Body Try.prog 53 (Gn.bl3 62 61) Gn.ax3 8 := B1 Try.f53 [] Try.func53
theorem b54 : Body Try.prog 54 Gn.bz2 Gn.bg6 23 := B1 Try.f54 [] Try.func54
theorem b55 : Body Try.prog 55 (Gn.ah5 9) Gn.ag0 27 := B1 Try.f55 [] Try.func55
theorem b58 : Body Try.prog 58 (Gn.ad9 74) Gn.ad0 42 := B1 Try.f58 [] Try.func58
theorem b59 : Body Try.prog 59 (Gn.ao9 60) Gn.al2 13 := B1 Try.f59 [] Try.func59
theorem b60 : Body Try.prog 60 (Gn.ae3 69 75) Gn.ad7 54 := B1 Try.f60 [] Try.func60
theorem b61 : Body Try.prog 61 Gn.bg5 Gn.at6 23 := B1 Try.f61 [] Try.func61
theorem b62 : Body Try.prog 62 Gn.au4 Gn.ar9 8 := B1 Try.f62 [] Try.func62
theorem b69 : Body Try.prog 69 (Gn.az7 81) Gn.as5 17 := B1 Try.f69 [] Try.func69
theorem b74 : Body Try.prog 74 Gn.ae1 Gn.ad6 19 := B1 Try.f74 [] Try.func74
theorem b75 : Body Try.prog 75 Gn.ao3 Gn.ak6 6 := B1 Try.f75 [] Try.func75
theorem b81 : Body Try.prog 81 Gn.aw6 Gn.aq7 6 := B1 Try.f81 [] Try.func81
def tabT : List (Nat × FnD) := [(6, ⟨(Gn.ai0 7 8 21 20 13), Gn.ag5, 92⟩), (7, ⟨(Gn.an3 22 11 14 9 15), Gn.aj8, 29⟩), (8, ⟨(Gn.an2 23 24), Gn.aj7, 10⟩), (9, ⟨(Gn.bc6 27 25 26), Gn.at9, 31⟩), (10, ⟨(Gn.av6 21 20 28), Gn.ar3, 15⟩), (11, ⟨Gn.ap0, Gn.al4, 26⟩), (12, ⟨(Gn.as8 19 29), Gn.ap7, 31⟩), (13, ⟨(Gn.bg9 15), Gn.az3, 11⟩), (14, ⟨(Gn.ax6 30 27 25 31), Gn.ar1, 36⟩), (15, ⟨(Gn.aq6 9), Gn.am0, 22⟩), (16, ⟨(Gn.ar2 19 29), Gn.ao2, 14⟩), (19, ⟨Gn.ay6, Gn.at1, 14⟩), (20, ⟨(Gn.an0 20), Gn.aj6, 21⟩), (21, ⟨(Gn.ap1 21), Gn.al5, 25⟩), (22, ⟨(Gn.as3 34), Gn.ap2, 13⟩), (23, ⟨(Gn.an4 20), Gn.aj9, 6⟩), (24, ⟨(Gn.al6 24), Gn.ai8, 51⟩), (25, ⟨(Gn.cl5 36 35), Gn.bp7, 18⟩), (26, ⟨Gn.ab2, Gn.aa7, 8⟩), (27, ⟨(Gn.as1 38 37 27 39), Gn.ao7, 63⟩), (28, ⟨(Gn.as9 28), Gn.ap8, 89⟩), (29, ⟨(Gn.at0 32 29), Gn.ap9, 159⟩), (30, ⟨(Gn.bg8 30), Gn.az2, 72⟩), (31, ⟨(Gn.ag3 40), Gn.af4, 9⟩), (32, ⟨Gn.av7, Gn.an1, 22⟩), (34, ⟨(Gn.bh1 41), Gn.bc7, 17⟩), (35, ⟨(Gn.bk6 42), Gn.bb6, 10⟩), (36, ⟨(Gn.bp6 43 45 44), Gn.bg2, 11⟩), (37, ⟨(Gn.as2 46), Gn.ao8, 50⟩), (38, ⟨(Gn.am8 49 47 48), Gn.aj1, 14⟩), (39, ⟨(Gn.ao6 50 38 27), Gn.al1, 57⟩), (40, ⟨Gn.ai7, Gn.ah3, 19⟩), (41, ⟨Gn.bj6, Gn.be3, 27⟩), (42, ⟨(Gn.ay9 42), Gn.ar8, 39⟩), (43, ⟨(Gn.bx7 51), Gn.bk7, 71⟩), (44, ⟨(Gn.ac3 52), Gn.ab8, 9⟩), (45, ⟨(Gn.bb7 36), Gn.av0, 6⟩), (46, ⟨(Gn.bw7 53 54), Gn.bg7, 12⟩), (47, ⟨(Gn.ag1 55 9), Gn.ae5, 36⟩), (49, ⟨Gn.af3, Gn.ae2, 61⟩), (50, ⟨(Gn.ar0 59 26 58), Gn.am9, 9⟩), (51, ⟨Gn.bk8, Gn.bb8, 15⟩), (52, ⟨Gn.ad4, Gn.ac6, 19⟩), (53, ⟨(Gn.bl3 62 61), Gn.ax3, 8⟩), (54, ⟨Gn.bz2, Gn.bg6, 23⟩), (55, ⟨(Gn.ah5 9), Gn.ag0, 27⟩), (58, ⟨(Gn.ad9 74), Gn.ad0, 42⟩), (59, ⟨(Gn.ao9 60), Gn.al2, 13⟩), (60, ⟨(Gn.ae3 69 75), Gn.ad7, 54⟩), (61, ⟨Gn.bg5, Gn.at6, 23⟩), (62, ⟨Gn.au4, Gn.ar9, 8⟩), (69, ⟨(Gn.az7 81), Gn.as5, 17⟩), (74, ⟨Gn.ae1, Gn.ad6, 19⟩), (75, ⟨Gn.ao3, Gn.ak6, 6⟩), (81, ⟨Gn.aw6, Gn.aq7, 6⟩)]
theorem tabT_ok : AllT (fun f d => Body Try.prog f d.ec d.rs d.nt) tabT := ⟨b6, ⟨b7, ⟨b8, ⟨b9, ⟨b10, ⟨b11, ⟨b12, ⟨b13, ⟨b14, ⟨b15, ⟨b16, ⟨b19, ⟨b20, ⟨b21, ⟨b22, ⟨b23, ⟨b24, ⟨b25, ⟨b26, ⟨b27, ⟨b28, ⟨b29, ⟨b30, ⟨b31, ⟨b32, ⟨b34, ⟨b35, ⟨b36, ⟨b37, ⟨b38, ⟨b39, ⟨b40, ⟨b41, ⟨b42, ⟨b43, ⟨b44, ⟨b45, ⟨b46, ⟨b47, ⟨b49, ⟨b50, ⟨b51, ⟨b52, ⟨b53, ⟨b54, ⟨b55, ⟨b58, ⟨b59, ⟨b60, ⟨b61, ⟨b62, ⟨b69, ⟨b74, ⟨b75, ⟨b81, trivial⟩⟩⟩⟩⟩⟩⟩⟩⟩⟩⟩⟩⟩⟩⟩⟩⟩⟩⟩⟩⟩⟩⟩⟩⟩⟩⟩⟩⟩⟩⟩⟩⟩⟩⟩⟩⟩⟩⟩⟩⟩⟩⟩⟩⟩⟩⟩⟩⟩⟩⟩⟩⟩⟩⟩
def tabF : List (Nat × FnE) := []
theorem tabF_ok : AllT (fun f d => eq0 Try.prog f d.ef d.rs d.nt) tabF := trivial
def tabD : List (Nat × FnDf) := []
theorem tabD_ok : AllT (fun f d => ei6 Try.prog f d.d0 d.d1 d.ec d.nt) tabD := trivial
def kept : List Nat := [26, 55, 47]
def env (γ : Nat → EV) (Ψ : FuncId → List EV → Heap → Option (ER × Heap)) : Env := ⟨Abs.look tabT, Abs.look tabF, Abs.look tabD, γ, Ψ, kept.contains⟩
theorem d6 (h : ∀ xs H, Ψ 6 xs H = none) : Def (env γ Ψ) 6 (Gn.ai0 7 8 21 20 13) Gn.ag5 92 := ⟨by kernel_rfl, h, by kernel_rfl⟩
theorem d7 (h : ∀ xs H, Ψ 7 xs H = none) : Def (env γ Ψ) 7 (Gn.an3 22 11 14 9 15) Gn.aj8 29 := ⟨by kernel_rfl, h, by kernel_rfl⟩
theorem d8 (h : ∀ xs H, Ψ 8 xs H = none) : Def (env γ Ψ) 8 (Gn.an2 23 24) Gn.aj7 10 := ⟨by kernel_rfl, h, by kernel_rfl⟩
theorem d9 (h : ∀ xs H, Ψ 9 xs H = none) : Def (env γ Ψ) 9 (Gn.bc6 27 25 26) Gn.at9 31 := ⟨by kernel_rfl, h, by kernel_rfl⟩
theorem d10 (h : ∀ xs H, Ψ 10 xs H = none) : Def (env γ Ψ) 10 (Gn.av6 21 20 28) Gn.ar3 15 := ⟨by kernel_rfl, h, by kernel_rfl⟩
theorem d11 (h : ∀ xs H, Ψ 11 xs H = none) : Def (env γ Ψ) 11 Gn.ap0 Gn.al4 26 := ⟨by kernel_rfl, h, by kernel_rfl⟩
theorem d12 (h : ∀ xs H, Ψ 12 xs H = none) : Def (env γ Ψ) 12 (Gn.as8 19 29) Gn.ap7 31 := ⟨by kernel_rfl, h, by kernel_rfl⟩
theorem d13 (h : ∀ xs H, Ψ 13 xs H = none) : Def (env γ Ψ) 13 (Gn.bg9 15) Gn.az3 11 := ⟨by kernel_rfl, h, by kernel_rfl⟩
theorem d14 (h : ∀ xs H, Ψ 14 xs H = none) : Def (env γ Ψ) 14 (Gn.ax6 30 27 25 31) Gn.ar1 36 := ⟨by kernel_rfl, h, by kernel_rfl⟩
theorem d15 (h : ∀ xs H, Ψ 15 xs H = none) : Def (env γ Ψ) 15 (Gn.aq6 9) Gn.am0 22 := ⟨by kernel_rfl, h, by kernel_rfl⟩
theorem d16 (h : ∀ xs H, Ψ 16 xs H = none) : Def (env γ Ψ) 16 (Gn.ar2 19 29) Gn.ao2 14 := ⟨by kernel_rfl, h, by kernel_rfl⟩
theorem d19 (h : ∀ xs H, Ψ 19 xs H = none) : Def (env γ Ψ) 19 Gn.ay6 Gn.at1 14 := ⟨by kernel_rfl, h, by kernel_rfl⟩
theorem d20 (h : ∀ xs H, Ψ 20 xs H = none) : Def (env γ Ψ) 20 (Gn.an0 20) Gn.aj6 21 := ⟨by kernel_rfl, h, by kernel_rfl⟩
theorem d21 (h : ∀ xs H, Ψ 21 xs H = none) : Def (env γ Ψ) 21 (Gn.ap1 21) Gn.al5 25 := ⟨by kernel_rfl, h, by kernel_rfl⟩
theorem d22 (h : ∀ xs H, Ψ 22 xs H = none) : Def (env γ Ψ) 22 (Gn.as3 34) Gn.ap2 13 := ⟨by kernel_rfl, h, by kernel_rfl⟩
theorem d23 (h : ∀ xs H, Ψ 23 xs H = none) : Def (env γ Ψ) 23 (Gn.an4 20) Gn.aj9 6 := ⟨by kernel_rfl, h, by kernel_rfl⟩
theorem d24 (h : ∀ xs H, Ψ 24 xs H = none) : Def (env γ Ψ) 24 (Gn.al6 24) Gn.ai8 51 := ⟨by kernel_rfl, h, by kernel_rfl⟩
theorem d25 (h : ∀ xs H, Ψ 25 xs H = none) : Def (env γ Ψ) 25 (Gn.cl5 36 35) Gn.bp7 18 := ⟨by kernel_rfl, h, by kernel_rfl⟩
theorem d26 (h : ∀ xs H, Ψ 26 xs H = none) : DefK (env γ Ψ) 26 Gn.ab2 Gn.aa7 8 := ⟨by kernel_rfl, h, by kernel_rfl⟩
theorem d27 (h : ∀ xs H, Ψ 27 xs H = none) : Def (env γ Ψ) 27 (Gn.as1 38 37 27 39) Gn.ao7 63 := ⟨by kernel_rfl, h, by kernel_rfl⟩
theorem d28 (h : ∀ xs H, Ψ 28 xs H = none) : Def (env γ Ψ) 28 (Gn.as9 28) Gn.ap8 89 := ⟨by kernel_rfl, h, by kernel_rfl⟩
theorem d29 (h : ∀ xs H, Ψ 29 xs H = none) : Def (env γ Ψ) 29 (Gn.at0 32 29) Gn.ap9 159 := ⟨by kernel_rfl, h, by kernel_rfl⟩
theorem d30 (h : ∀ xs H, Ψ 30 xs H = none) : Def (env γ Ψ) 30 (Gn.bg8 30) Gn.az2 72 := ⟨by kernel_rfl, h, by kernel_rfl⟩
theorem d31 (h : ∀ xs H, Ψ 31 xs H = none) : Def (env γ Ψ) 31 (Gn.ag3 40) Gn.af4 9 := ⟨by kernel_rfl, h, by kernel_rfl⟩
theorem d35 (h : ∀ xs H, Ψ 35 xs H = none) : Def (env γ Ψ) 35 (Gn.bk6 42) Gn.bb6 10 := ⟨by kernel_rfl, h, by kernel_rfl⟩
theorem d36 (h : ∀ xs H, Ψ 36 xs H = none) : Def (env γ Ψ) 36 (Gn.bp6 43 45 44) Gn.bg2 11 := ⟨by kernel_rfl, h, by kernel_rfl⟩
theorem d37 (h : ∀ xs H, Ψ 37 xs H = none) : Def (env γ Ψ) 37 (Gn.as2 46) Gn.ao8 50 := ⟨by kernel_rfl, h, by kernel_rfl⟩
theorem d38 (h : ∀ xs H, Ψ 38 xs H = none) : Def (env γ Ψ) 38 (Gn.am8 49 47 48) Gn.aj1 14 := ⟨by kernel_rfl, h, by kernel_rfl⟩
theorem d39 (h : ∀ xs H, Ψ 39 xs H = none) : Def (env γ Ψ) 39 (Gn.ao6 50 38 27) Gn.al1 57 := ⟨by kernel_rfl, h, by kernel_rfl⟩
theorem d40 (h : ∀ xs H, Ψ 40 xs H = none) : Def (env γ Ψ) 40 Gn.ai7 Gn.ah3 19 := ⟨by kernel_rfl, h, by kernel_rfl⟩
theorem d42 (h : ∀ xs H, Ψ 42 xs H = none) : Def (env γ Ψ) 42 (Gn.ay9 42) Gn.ar8 39 := ⟨by kernel_rfl, h, by kernel_rfl⟩
theorem d43 (h : ∀ xs H, Ψ 43 xs H = none) : Def (env γ Ψ) 43 (Gn.bx7 51) Gn.bk7 71 := ⟨by kernel_rfl, h, by kernel_rfl⟩
theorem d44 (h : ∀ xs H, Ψ 44 xs H = none) : Def (env γ Ψ) 44 (Gn.ac3 52) Gn.ab8 9 := ⟨by kernel_rfl, h, by kernel_rfl⟩
theorem d45 (h : ∀ xs H, Ψ 45 xs H = none) : Def (env γ Ψ) 45 (Gn.bb7 36) Gn.av0 6 := ⟨by kernel_rfl, h, by kernel_rfl⟩
theorem d47 (h : ∀ xs H, Ψ 47 xs H = none) : DefK (env γ Ψ) 47 (Gn.ag1 55 9) Gn.ae5 36 := ⟨by kernel_rfl, h, by kernel_rfl⟩
theorem d49 (h : ∀ xs H, Ψ 49 xs H = none) : Def (env γ Ψ) 49 Gn.af3 Gn.ae2 61 := ⟨by kernel_rfl, h, by kernel_rfl⟩
theorem d50 (h : ∀ xs H, Ψ 50 xs H = none) : Def (env γ Ψ) 50 (Gn.ar0 59 26 58) Gn.am9 9 := ⟨by kernel_rfl, h, by kernel_rfl⟩
theorem d51 (h : ∀ xs H, Ψ 51 xs H = none) : Def (env γ Ψ) 51 Gn.bk8 Gn.bb8 15 := ⟨by kernel_rfl, h, by kernel_rfl⟩
theorem d52 (h : ∀ xs H, Ψ 52 xs H = none) : Def (env γ Ψ) 52 Gn.ad4 Gn.ac6 19 := ⟨by kernel_rfl, h, by kernel_rfl⟩
theorem d55 (h : ∀ xs H, Ψ 55 xs H = none) : DefK (env γ Ψ) 55 (Gn.ah5 9) Gn.ag0 27 := ⟨by kernel_rfl, h, by kernel_rfl⟩
theorem d58 (h : ∀ xs H, Ψ 58 xs H = none) : Def (env γ Ψ) 58 (Gn.ad9 74) Gn.ad0 42 := ⟨by kernel_rfl, h, by kernel_rfl⟩
theorem d59 (h : ∀ xs H, Ψ 59 xs H = none) : Def (env γ Ψ) 59 (Gn.ao9 60) Gn.al2 13 := ⟨by kernel_rfl, h, by kernel_rfl⟩
theorem d60 (h : ∀ xs H, Ψ 60 xs H = none) : Def (env γ Ψ) 60 (Gn.ae3 69 75) Gn.ad7 54 := ⟨by kernel_rfl, h, by kernel_rfl⟩
theorem d69 (h : ∀ xs H, Ψ 69 xs H = none) : Def (env γ Ψ) 69 (Gn.az7 81) Gn.as5 17 := ⟨by kernel_rfl, h, by kernel_rfl⟩
theorem d74 (h : ∀ xs H, Ψ 74 xs H = none) : Def (env γ Ψ) 74 Gn.ae1 Gn.ad6 19 := ⟨by kernel_rfl, h, by kernel_rfl⟩
theorem d75 (h : ∀ xs H, Ψ 75 xs H = none) : Def (env γ Ψ) 75 Gn.ao3 Gn.ak6 6 := ⟨by kernel_rfl, h, by kernel_rfl⟩
theorem d81 (h : ∀ xs H, Ψ 81 xs H = none) : Def (env γ Ψ) 81 Gn.aw6 Gn.aq7 6 := ⟨by kernel_rfl, h, by kernel_rfl⟩
theorem cp2 {γ : Nat → EV} {Ψ : FuncId → List EV → Heap → Option (ER × Heap)} (h : ∀ f xs H r, Ψ f xs H = some r → CallsA Try.prog γ f xs H fun er H' => er = r.1 ∧ H' = r.2) : (env γ Ψ).Sound Try.prog :=
 ⟨fun f d h => tabT_ok.look h, fun f d h => tabF_ok.look h, fun f d h => tabD_ok.look h, h⟩
end Go.Proofs.Ytdcjkdgjlljodaa
