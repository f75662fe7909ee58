/- A part. -/
import Derived.Test.YtdcjkdgjlljodaaProg
import Derived.Test.YtdcjkdgjlljodaaGnX
import Derived.Test.YtdcjkdgjlljodaaGnO
import Derived.KernelRfl
set_option linter.all false
namespace Go.Proofs.Ytdcjkdgjlljodaa
open Go Abs
set_option maxRecDepth 100000
theorem B1 {f : FuncId} {ec : EC} {rs : List ERes} {nt : Nat} (fn : Func) (own : List Nat) (h : Try.prog.funcs[f]? = some fn) (h1 : fn.body = some (fn.body.getD .skip) := by kernel_rfl) (h2 : (fn.name == "runtime.NumGoroutine") = false := by kernel_rfl) (h3 : resC Try.prog nt own (fn.body.getD .skip) = some ec := by kernel_rfl) (h4 : fn.results.toList.mapM (bk5 Try.prog) = some rs := by kernel_rfl) (h5 : fn.ntmps = nt := by kernel_rfl) : Body Try.prog f ec rs nt := ⟨fn, _, own, h, h1, h2, h3, h4, h5⟩
variable {γ : Nat → EV} {Ψ : FuncId → List EV → Heap → Option (ER × Heap)}
theorem b5 : Body Try.prog 5 (Gn.af7 7 8 14 13) Gn.ae5 41 := B1 Try.f5 [] Try.func5
theorem b7 : Body Try.prog 7 (Gn.ao0 22 11 14 9 15) Gn.ak3 29 := B1 Try.f7 [] Try.func7
theorem b8 : Body Try.prog 8 (Gn.an9 23 24) Gn.ak2 10 := B1 Try.f8 [] Try.func8
theorem b9 : Body Try.prog 9 (Gn.bd7 27 25 26) Gn.av6 31 := B1 Try.f9 [] Try.func9
theorem b10 : Body Try.prog 10 (Gn.ax0 21 20 28) Gn.as4 15 := B1 Try.f10 [] Try.func10
theorem b11 : Body Try.prog 11 Gn.ap7 Gn.am1 26 := B1 Try.f11 [] Try.func11
theorem b12 : Body Try.prog 12 (Gn.au3 19 29) Gn.aq5 31 := B1 Try.f12 [] Try.func12
theorem b13 : Body Try.prog 13 (Gn.bi0 15) Gn.ba2 11 := B1 Try.f13 [] Try.func13
theorem b14 : Body Try.prog 14 (Gn.ay8 30 27 25 31) Gn.as2 36 := B1 Try.f14 [] Try.func14
theorem b15 : Body Try.prog 15 (Gn.ar5 9) Gn.am6 22 := B1 Try.f15 [] Try.func15
theorem b16 : Body Try.prog 16 (Gn.as3 19 29) Gn.ao9 14 := B1 Try.f16 [] Try.func16
theorem b19 : Body Try.prog 19 Gn.az6 Gn.au7 14 := B1 Try.f19 [] Try.func19
theorem b20 : Body Try.prog 20 (Gn.an7 20) Gn.ak1 21 := B1 Try.f20 [] Try.func20
theorem b21 : Body Try.prog 21 (Gn.au6 21) Gn.aq8 25 := B1 Try.f21 [] Try.func21
theorem b22 : Body Try.prog 22 (Gn.at7 34) Gn.ap8 13 := B1 Try.f22 [] Try.func22
theorem b23 : Body Try.prog 23 (Gn.ao1 20) Gn.ak4 6 := B1 Try.f23 [] Try.func23
theorem b24 : Body Try.prog 24 (Gn.am2 24) Gn.aj4 51 := B1 Try.f24 [] Try.func24
theorem b25 : Body Try.prog 25 (Gn.cm7 36 35) Gn.bq5 18 := B1 Try.f25 [] Try.func25
theorem b26 : Body Try.prog 26 Gn.ab2 Gn.aa7 8 := B1 Try.f26 [] Try.func26
theorem b27 : Body Try.prog 27 (Gn.at5 38 37 27 39) Gn.ap4 63 := B1 Try.f27 [] Try.func27
theorem b28 : Body Try.prog 28 (Gn.au4 28) Gn.aq6 89 := B1 Try.f28 [] Try.func28
theorem b29 : Body Try.prog 29 (Gn.au5 32 29) Gn.aq7 159 := B1 Try.f29 [] Try.func29
theorem b30 : Body Try.prog 30 (Gn.bh9 30) Gn.ba1 72 := B1 Try.f30 [] Try.func30
theorem b31 : Body Try.prog 31 (Gn.ah0 40) Gn.af8 9 := B1 Try.f31 [] Try.func31
theorem b32 : Body Try.prog 32 Gn.ax1 Gn.an8 22 := B1 Try.f32 [] Try.func32
theorem b34 : Body Try.prog 34 (Gn.bi1 41) Gn.bd9 17 := B1 Try.f34 [] Try.func34
theorem b35 : Body Try.prog 35 (Gn.bl6 42) Gn.bc6 10 := B1 Try.f35 [] Try.func35
theorem b36 : Body Try.prog 36 (Gn.bq4 43 45 44) Gn.bh1 11 := B1 Try.f36 [] Try.func36
theorem b37 : Body Try.prog 37 (Gn.at6 46) Gn.ap5 50 := B1 Try.f37 [] Try.func37
theorem b38 : Body Try.prog 38 (Gn.an5 49 47 48) Gn.aj7 14 := B1 Try.f38 [] Try.func38
theorem b39 : Body Try.prog 39 (Gn.ap3 50 38 27) Gn.al8 57 := B1 Try.f39 [] Try.func39
theorem b40 : Body Try.prog 40 Gn.aj2 Gn.ah9 19 := B1 Try.f40 [] Try.func40
theorem b41 : Body Try.prog 41 Gn.bk6 Gn.bf6 27 := B1 Try.f41 [] Try.func41
theorem b42 : Body Try.prog 42 (Gn.az9 42) Gn.at1 39 := B1 Try.f42 [] Try.func42
theorem b43 : Body Try.prog 43 (Gn.bz0 51) Gn.bl7 71 := B1 Try.f43 [] Try.func43
theorem b44 : Body Try.prog 44 (Gn.ac4 52) Gn.ab8 9 := B1 Try.f44 [] Try.func44
theorem b45 : Body Try.prog 45 (Gn.bc7 36) Gn.aw5 6 := B1 Try.f45 [] Try.func45
theorem b46 : Body Try.prog 46 (Gn.bx8 53 54) Gn.bh6 12 := B1 Try.f46 [] Try.func46
theorem b47 : Body Try.prog 47 (Gn.ag8 55 9) Gn.ae7 36 := B1 Try.f47 [] Try.func47
theorem b49 : Body Try.prog 49 Gn.af6 Gn.ae4 61 := B1 Try.f49 [] Try.func49
theorem b50 : Body Try.prog 50 (Gn.as1 59 26 58) Gn.an6 9 := B1 Try.f50 [] Try.func50
theorem b51 : Body Try.prog 51 Gn.bl8 Gn.bc8 15 := B1 Try.f51 [] Try.func51
theorem b52 : Body Try.prog 52 Gn.ad4 Gn.ac6 19 := B1 Try.f52 [] Try.func52
theorem b53 : Body Try.prog 53 (Gn.bm2 62 61) Gn.ay5 8 := B1 Try.f53 [] Try.func53
theorem b54 : Body Try.prog 54 Gn.ca7 Gn.bh5 23 := B1 Try.f54 [] Try.func54
theorem b55 : Body Try.prog 55 (Gn.ai1 9) Gn.ag7 27 := B1 Try.f55 [] Try.func55
theorem b58 : Body Try.prog 58 (Gn.ae1 74) Gn.ad0 42 := B1 Try.f58 [] Try.func58
theorem b59 : Body Try.prog 59 (Gn.ap6 60) Gn.al9 13 := B1 Try.f59 [] Try.func59
theorem b60 : Body Try.prog 60 (Gn.ae6 69 75) Gn.ad9 54 := B1 Try.f60 [] Try.func60
theorem b61 : Body Try.prog 61 Gn.bh4 Gn.av2 23 := B1 Try.f61 [] Try.func61
theorem b62 : Body Try.prog 62 Gn.aw1 Gn.at2 8 := B1 Try.f62 [] Try.func62
theorem b69 : Body Try.prog 69 (Gn.ba6 81) Gn.at9 17 := B1 Try.f69 [] Try.func69
theorem b74 : Body Try.prog 74 Gn.ae3 Gn.ad7 19 := B1 Try.f74 [] Try.func74
theorem b75 : Body Try.prog 75 Gn.ap0 Gn.al2 6 := B1 Try.f75 [] Try.func75
theorem b81 : Body Try.prog 81 Gn.ax7 Gn.ar6 6 := B1 Try.f81 [] Try.func81
def tabT : List (Nat × FnD) := [(5, ⟨(Gn.af7 7 8 14 13), Gn.ae5, 41⟩), (7, ⟨(Gn.ao0 22 11 14 9 15), Gn.ak3, 29⟩), (8, ⟨(Gn.an9 23 24), Gn.ak2, 10⟩), (9, ⟨(Gn.bd7 27 25 26), Gn.av6, 31⟩), (10, ⟨(Gn.ax0 21 20 28), Gn.as4, 15⟩), (11, ⟨Gn.ap7, Gn.am1, 26⟩), (12, ⟨(Gn.au3 19 29), Gn.aq5, 31⟩), (13, ⟨(Gn.bi0 15), Gn.ba2, 11⟩), (14, ⟨(Gn.ay8 30 27 25 31), Gn.as2, 36⟩), (15, ⟨(Gn.ar5 9), Gn.am6, 22⟩), (16, ⟨(Gn.as3 19 29), Gn.ao9, 14⟩), (19, ⟨Gn.az6, Gn.au7, 14⟩), (20, ⟨(Gn.an7 20), Gn.ak1, 21⟩), (21, ⟨(Gn.au6 21), Gn.aq8, 25⟩), (22, ⟨(Gn.at7 34), Gn.ap8, 13⟩), (23, ⟨(Gn.ao1 20), Gn.ak4, 6⟩), (24, ⟨(Gn.am2 24), Gn.aj4, 51⟩), (25, ⟨(Gn.cm7 36 35), Gn.bq5, 18⟩), (26, ⟨Gn.ab2, Gn.aa7, 8⟩), (27, ⟨(Gn.at5 38 37 27 39), Gn.ap4, 63⟩), (28, ⟨(Gn.au4 28), Gn.aq6, 89⟩), (29, ⟨(Gn.au5 32 29), Gn.aq7, 159⟩), (30, ⟨(Gn.bh9 30), Gn.ba1, 72⟩), (31, ⟨(Gn.ah0 40), Gn.af8, 9⟩), (32, ⟨Gn.ax1, Gn.an8, 22⟩), (34, ⟨(Gn.bi1 41), Gn.bd9, 17⟩), (35, ⟨(Gn.bl6 42), Gn.bc6, 10⟩), (36, ⟨(Gn.bq4 43 45 44), Gn.bh1, 11⟩), (37, ⟨(Gn.at6 46), Gn.ap5, 50⟩), (38, ⟨(Gn.an5 49 47 48), Gn.aj7, 14⟩), (39, ⟨(Gn.ap3 50 38 27), Gn.al8, 57⟩), (40, ⟨Gn.aj2, Gn.ah9, 19⟩), (41, ⟨Gn.bk6, Gn.bf6, 27⟩), (42, ⟨(Gn.az9 42), Gn.at1, 39⟩), (43, ⟨(Gn.bz0 51), Gn.bl7, 71⟩), (44, ⟨(Gn.ac4 52), Gn.ab8, 9⟩), (45, ⟨(Gn.bc7 36), Gn.aw5, 6⟩), (46, ⟨(Gn.bx8 53 54), Gn.bh6, 12⟩), (47, ⟨(Gn.ag8 55 9), Gn.ae7, 36⟩), (49, ⟨Gn.af6, Gn.ae4, 61⟩), (50, ⟨(Gn.as1 59 26 58), Gn.an6, 9⟩), (51, ⟨Gn.bl8, Gn.bc8, 15⟩), (52, ⟨Gn.ad4, Gn.ac6, 19⟩), (53, ⟨(Gn.bm2 62 61), Gn.ay5, 8⟩), (54, ⟨Gn.ca7, Gn.bh5, 23⟩), (55, ⟨(Gn.ai1 9), Gn.ag7, 27⟩), (58, ⟨(Gn.ae1 74), Gn.ad0, 42⟩), (59, ⟨(Gn.ap6 60), Gn.al9, 13⟩), (60, ⟨(Gn.ae6 69 75), Gn.ad9, 54⟩), (61, ⟨Gn.bh4, Gn.av2, 23⟩), (62, ⟨Gn.aw1, Gn.at2, 8⟩), (69, ⟨(Gn.ba6 81), Gn.at9, 17⟩), (74, ⟨Gn.ae3, Gn.ad7, 19⟩), (75, ⟨Gn.ap0, Gn.al2, 6⟩), (81, ⟨Gn.ax7, Gn.ar6, 6⟩)]
theorem tabT_ok : AllT (fun f d => Body Try.prog f d.ec d.rs d.nt) tabT := ⟨b5, ⟨b7, ⟨b8, ⟨b9, ⟨b10, ⟨b11, ⟨b12, ⟨b13, ⟨b14, ⟨b15, ⟨b16, ⟨b19, ⟨b20, ⟨b21, ⟨b22, ⟨b23, ⟨b24, ⟨b25, ⟨b26, ⟨b27, ⟨b28, ⟨b29, ⟨b30, ⟨b31, ⟨b32, ⟨b34, ⟨b35, ⟨b36, ⟨b37, ⟨b38, ⟨b39, ⟨b40, ⟨b41, ⟨b42, ⟨b43, ⟨b44, ⟨b45, ⟨b46, ⟨b47, ⟨b49, ⟨b50, ⟨b51, ⟨b52, ⟨b53, ⟨b54, ⟨b55, ⟨b58, ⟨b59, ⟨b60, ⟨b61, ⟨b62, ⟨b69, ⟨b74, ⟨b75, ⟨b81, trivial⟩⟩⟩⟩⟩⟩⟩⟩⟩⟩⟩⟩⟩⟩⟩⟩⟩⟩⟩⟩⟩⟩⟩⟩⟩⟩⟩⟩⟩⟩⟩⟩⟩⟩⟩⟩⟩⟩⟩⟩⟩⟩⟩⟩⟩⟩⟩⟩⟩⟩⟩⟩⟩⟩⟩
def tabF : List (Nat × FnE) := []
theorem tabF_ok : AllT (fun f d => es7 Try.prog f d.ef d.rs d.nt) tabF := trivial
def tabD : List (Nat × FnDf) := []
theorem tabD_ok : AllT (fun f d => ek7 Try.prog f d.d0 d.d1 d.ec d.nt) tabD := trivial
def kept : List Nat := [26, 55, 47]
def env (γ : Nat → EV) (Ψ : FuncId → List EV → Heap → Option (ER × Heap)) : Env := ⟨Abs.look tabT, Abs.look tabF, Abs.look tabD, γ, Ψ, kept.contains⟩
theorem d5 (h : ∀ xs H, Ψ 5 xs H = none) : Def (env γ Ψ) 5 (Gn.af7 7 8 14 13) Gn.ae5 41 := ⟨by kernel_rfl, h, by kernel_rfl⟩
theorem d7 (h : ∀ xs H, Ψ 7 xs H = none) : Def (env γ Ψ) 7 (Gn.ao0 22 11 14 9 15) Gn.ak3 29 := ⟨by kernel_rfl, h, by kernel_rfl⟩
theorem d8 (h : ∀ xs H, Ψ 8 xs H = none) : Def (env γ Ψ) 8 (Gn.an9 23 24) Gn.ak2 10 := ⟨by kernel_rfl, h, by kernel_rfl⟩
theorem d9 (h : ∀ xs H, Ψ 9 xs H = none) : Def (env γ Ψ) 9 (Gn.bd7 27 25 26) Gn.av6 31 := ⟨by kernel_rfl, h, by kernel_rfl⟩
theorem d10 (h : ∀ xs H, Ψ 10 xs H = none) : Def (env γ Ψ) 10 (Gn.ax0 21 20 28) Gn.as4 15 := ⟨by kernel_rfl, h, by kernel_rfl⟩
theorem d11 (h : ∀ xs H, Ψ 11 xs H = none) : Def (env γ Ψ) 11 Gn.ap7 Gn.am1 26 := ⟨by kernel_rfl, h, by kernel_rfl⟩
theorem d12 (h : ∀ xs H, Ψ 12 xs H = none) : Def (env γ Ψ) 12 (Gn.au3 19 29) Gn.aq5 31 := ⟨by kernel_rfl, h, by kernel_rfl⟩
theorem d13 (h : ∀ xs H, Ψ 13 xs H = none) : Def (env γ Ψ) 13 (Gn.bi0 15) Gn.ba2 11 := ⟨by kernel_rfl, h, by kernel_rfl⟩
theorem d14 (h : ∀ xs H, Ψ 14 xs H = none) : Def (env γ Ψ) 14 (Gn.ay8 30 27 25 31) Gn.as2 36 := ⟨by kernel_rfl, h, by kernel_rfl⟩
theorem d15 (h : ∀ xs H, Ψ 15 xs H = none) : Def (env γ Ψ) 15 (Gn.ar5 9) Gn.am6 22 := ⟨by kernel_rfl, h, by kernel_rfl⟩
theorem d16 (h : ∀ xs H, Ψ 16 xs H = none) : Def (env γ Ψ) 16 (Gn.as3 19 29) Gn.ao9 14 := ⟨by kernel_rfl, h, by kernel_rfl⟩
theorem d19 (h : ∀ xs H, Ψ 19 xs H = none) : Def (env γ Ψ) 19 Gn.az6 Gn.au7 14 := ⟨by kernel_rfl, h, by kernel_rfl⟩
theorem d20 (h : ∀ xs H, Ψ 20 xs H = none) : Def (env γ Ψ) 20 (Gn.an7 20) Gn.ak1 21 := ⟨by kernel_rfl, h, by kernel_rfl⟩
theorem d21 (h : ∀ xs H, Ψ 21 xs H = none) : Def (env γ Ψ) 21 (Gn.au6 21) Gn.aq8 25 := ⟨by kernel_rfl, h, by kernel_rfl⟩
theorem d22 (h : ∀ xs H, Ψ 22 xs H = none) : Def (env γ Ψ) 22 (Gn.at7 34) Gn.ap8 13 := ⟨by kernel_rfl, h, by kernel_rfl⟩
theorem d23 (h : ∀ xs H, Ψ 23 xs H = none) : Def (env γ Ψ) 23 (Gn.ao1 20) Gn.ak4 6 := ⟨by kernel_rfl, h, by kernel_rfl⟩
theorem d24 (h : ∀ xs H, Ψ 24 xs H = none) : Def (env γ Ψ) 24 (Gn.am2 24) Gn.aj4 51 := ⟨by kernel_rfl, h, by kernel_rfl⟩
theorem d25 (h : ∀ xs H, Ψ 25 xs H = none) : Def (env γ Ψ) 25 (Gn.cm7 36 35) Gn.bq5 18 := ⟨by kernel_rfl, h, by kernel_rfl⟩
theorem d26 (h : ∀ xs H, Ψ 26 xs H = none) : DefK (env γ Ψ) 26 Gn.ab2 Gn.aa7 8 := ⟨by kernel_rfl, h, by kernel_rfl⟩
theorem d27 (h : ∀ xs H, Ψ 27 xs H = none) : Def (env γ Ψ) 27 (Gn.at5 38 37 27 39) Gn.ap4 63 := ⟨by kernel_rfl, h, by kernel_rfl⟩
theorem d28 (h : ∀ xs H, Ψ 28 xs H = none) : Def (env γ Ψ) 28 (Gn.au4 28) Gn.aq6 89 := ⟨by kernel_rfl, h, by kernel_rfl⟩
theorem d29 (h : ∀ xs H, Ψ 29 xs H = none) : Def (env γ Ψ) 29 (Gn.au5 32 29) Gn.aq7 159 := ⟨by kernel_rfl, h, by kernel_rfl⟩
theorem d30 (h : ∀ xs H, Ψ 30 xs H = none) : Def (env γ Ψ) 30 (Gn.bh9 30) Gn.ba1 72 := ⟨by kernel_rfl, h, by kernel_rfl⟩
theorem d31 (h : ∀ xs H, Ψ 31 xs H = none) : Def (env γ Ψ) 31 (Gn.ah0 40) Gn.af8 9 := ⟨by kernel_rfl, h, by kernel_rfl⟩
theorem d35 (h : ∀ xs H, Ψ 35 xs H = none) : Def (env γ Ψ) 35 (Gn.bl6 42) Gn.bc6 10 := ⟨by kernel_rfl, h, by kernel_rfl⟩
theorem d36 (h : ∀ xs H, Ψ 36 xs H = none) : Def (env γ Ψ) 36 (Gn.bq4 43 45 44) Gn.bh1 11 := ⟨by kernel_rfl, h, by kernel_rfl⟩
theorem d37 (h : ∀ xs H, Ψ 37 xs H = none) : Def (env γ Ψ) 37 (Gn.at6 46) Gn.ap5 50 := ⟨by kernel_rfl, h, by kernel_rfl⟩
theorem d38 (h : ∀ xs H, Ψ 38 xs H = none) : Def (env γ Ψ) 38 (Gn.an5 49 47 48) Gn.aj7 14 := ⟨by kernel_rfl, h, by kernel_rfl⟩
theorem d39 (h : ∀ xs H, Ψ 39 xs H = none) : Def (env γ Ψ) 39 (Gn.ap3 50 38 27) Gn.al8 57 := ⟨by kernel_rfl, h, by kernel_rfl⟩
theorem d40 (h : ∀ xs H, Ψ 40 xs H = none) : Def (env γ Ψ) 40 Gn.aj2 Gn.ah9 19 := ⟨by kernel_rfl, h, by kernel_rfl⟩
theorem d42 (h : ∀ xs H, Ψ 42 xs H = none) : Def (env γ Ψ) 42 (Gn.az9 42) Gn.at1 39 := ⟨by kernel_rfl, h, by kernel_rfl⟩
theorem d43 (h : ∀ xs H, Ψ 43 xs H = none) : Def (env γ Ψ) 43 (Gn.bz0 51) Gn.bl7 71 := ⟨by kernel_rfl, h, by kernel_rfl⟩
theorem d44 (h : ∀ xs H, Ψ 44 xs H = none) : Def (env γ Ψ) 44 (Gn.ac4 52) Gn.ab8 9 := ⟨by kernel_rfl, h, by kernel_rfl⟩
theorem d45 (h : ∀ xs H, Ψ 45 xs H = none) : Def (env γ Ψ) 45 (Gn.bc7 36) Gn.aw5 6 := ⟨by kernel_rfl, h, by kernel_rfl⟩
theorem d47 (h : ∀ xs H, Ψ 47 xs H = none) : DefK (env γ Ψ) 47 (Gn.ag8 55 9) Gn.ae7 36 := ⟨by kernel_rfl, h, by kernel_rfl⟩
theorem d49 (h : ∀ xs H, Ψ 49 xs H = none) : Def (env γ Ψ) 49 Gn.af6 Gn.ae4 61 := ⟨by kernel_rfl, h, by kernel_rfl⟩
theorem d50 (h : ∀ xs H, Ψ 50 xs H = none) : Def (env γ Ψ) 50 (Gn.as1 59 26 58) Gn.an6 9 := ⟨by kernel_rfl, h, by kernel_rfl⟩
theorem d51 (h : ∀ xs H, Ψ 51 xs H = none) : Def (env γ Ψ) 51 Gn.bl8 Gn.bc8 15 := ⟨by kernel_rfl, h, by kernel_rfl⟩
theorem d52 (h : ∀ xs H, Ψ 52 xs H = none) : Def (env γ Ψ) 52 Gn.ad4 Gn.ac6 19 := ⟨by kernel_rfl, h, by kernel_rfl⟩
theorem d55 (h : ∀ xs H, Ψ 55 xs H = none) : DefK (env γ Ψ) 55 (Gn.ai1 9) Gn.ag7 27 := ⟨by kernel_rfl, h, by kernel_rfl⟩
theorem d58 (h : ∀ xs H, Ψ 58 xs H = none) : Def (env γ Ψ) 58 (Gn.ae1 74) Gn.ad0 42 := ⟨by kernel_rfl, h, by kernel_rfl⟩
theorem d59 (h : ∀ xs H, Ψ 59 xs H = none) : Def (env γ Ψ) 59 (Gn.ap6 60) Gn.al9 13 := ⟨by kernel_rfl, h, by kernel_rfl⟩
theorem d60 (h : ∀ xs H, Ψ 60 xs H = none) : Def (env γ Ψ) 60 (Gn.ae6 69 75) Gn.ad9 54 := ⟨by kernel_rfl, h, by kernel_rfl⟩
theorem d69 (h : ∀ xs H, Ψ 69 xs H = none) : Def (env γ Ψ) 69 (Gn.ba6 81) Gn.at9 17 := ⟨by kernel_rfl, h, by kernel_rfl⟩
theorem d74 (h : ∀ xs H, Ψ 74 xs H = none) : Def (env γ Ψ) 74 Gn.ae3 Gn.ad7 19 := ⟨by kernel_rfl, h, by kernel_rfl⟩
theorem d75 (h : ∀ xs H, Ψ 75 xs H = none) : Def (env γ Ψ) 75 Gn.ap0 Gn.al2 6 := ⟨by kernel_rfl, h, by kernel_rfl⟩
theorem d81 (h : ∀ xs H, Ψ 81 xs H = none) : Def (env γ Ψ) 81 Gn.ax7 Gn.ar6 6 := ⟨by kernel_rfl, h, by kernel_rfl⟩
theorem cq4 {γ : Nat → EV} {Ψ : FuncId → List EV → Heap → Option (ER × Heap)} (h : ∀ f xs H r, Ψ f xs H = some r → CallsA Try.prog γ f xs H fun er H' => er = r.1 ∧ H' = r.2) : (env γ Ψ).Sound Try.prog :=
 ⟨fun f d h => tabT_ok.look h, fun f d h => tabF_ok.look h, fun f d h => tabD_ok.look h, h⟩
end Go.Proofs.Ytdcjkdgjlljodaa
