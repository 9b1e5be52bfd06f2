/- A part of the proof. -/
import Derived.Test.YtefddghdaimklaaGreatDoorBw
set_option linter.unusedVariables false
set_option linter.unusedSimpArgs false
set_option maxRecDepth 100000
namespace Go.Proofs.YtefddghdaimklaaGreatDoor.AI
open Go
noncomputable section
set_option maxRecDepth 100000
abbrev f152.A0 : Sig := [(false, .str), (true, tExpr), (true, tExpr)]
def O0 : FuncId → Option Con := yc
noncomputable def Nj : List (FuncId × Func) := [(152, Tryz.f152)]
def f152.g (n : Nat) (x : ByteArray × zg × zg) : Option (zg) :=
 some (Rose.node ((4 : Int), (x.1, ((0 : Int), ((0 : Int), ((0 : Int), (0, (⟨#[]⟩ : BA))))))) (List.take 2 ([(Rose.node x.2.1.lab x.2.1.kids), (Rose.node x.2.2.lab x.2.2.kids)])))
theorem f152.eq (n : Nat) (x : ByteArray × zg × zg) : rK O0 Nj n 1 152 (zu f152.A0 x) (zq [(true, tExpr)]) = f152.g n x := by
 kernel_rfl
theorem f152.codes : CdO O0 Nj := zm (aC Tryz.func152 aN) (by kernel_rfl)
theorem f152.ok (h : Run Ps f152.g)  : CO 152 (zk f152.A0 [(true, tExpr)] false Ps) :=
 zn zE zD zj f152.codes (fun h => by cases h) (h.go f152.eq)
def Z4 : Con := zk f152.A0 [(true, tExpr)] false Ps
abbrev f59.A0 : Sig := [(false, .sl .str), (false, .bool)]
def E59 : FuncId → Option Con := (zN 93 SQ yc)
noncomputable def C59 : List (FuncId × Func) := [(59, Tryz.f59), (94, Tryz.f94), (95, Tryz.f95), (96, Tryz.f96), (97, Tryz.f97), (145, Tryz.f145), (146, Tryz.f146), (147, Tryz.f147), (148, Tryz.f148), (149, Tryz.f149)]
def f59.at : ByteArray := (⟨#[97, 32, 43, 32, 49, 32, 60, 32, 53]⟩ : BA)
def f59.g (n : Nat) : Option ((List ByteArray) × Bool) := (Xu TT E59 n ann (xW C59) 20 59 (zu [(false, .str)] f59.at) []).bind fun p => (zq f59.A0) p.1 p.2
set_option maxHeartbeats 0 in
theorem f59.codes : tD Tryz.prog (xW C59) := lg (by intro p hp; simp only [C59, NM, List.not_mem_nil, or_false] at hp; rcases hp with rfl | rfl | rfl | rfl | rfl | rfl | rfl | rfl | rfl | rfl <;> first | exact Tryz.func59 | exact Tryz.func94 | exact Tryz.func95 | exact Tryz.func96 | exact Tryz.func97 | exact Tryz.func145 | exact Tryz.func146 | exact Tryz.func147 | exact Tryz.func148 | exact Tryz.func149) (by kernel_rfl)
theorem f59.ok (h : ∀ X Y, F59 X = some Y → X = f59.at ∧ ∃ n, f59.g n = some Y) (e93 : CO 93 SQ) : CO 59 (zk [(false, .str)] f59.A0 false F59) :=
 pi zE zD (zf e93 zj) f59.codes (fun h => by cases h) fun X Y hF => by
 rcases h X Y hF with ⟨e, n, hn⟩ <;> (subst e; exact ⟨n, hn⟩)
def UJ : Con := zk [(false, .str)] f59.A0 false F59
def E33 : FuncId → Option Con := yc
noncomputable def C33 : List (FuncId × Func) := [(33, Tryz.f33)]
def f33.g (n : Nat) (x : Unit) : Option (zi) :=
 some ((⟨#[116]⟩ : BA), (List.take 1 ([((⟨#[97]⟩ : BA), ((2 : Int), (false, ((0 : Int), ((0 : Int), (0, (⟨#[]⟩ : BA)))))))]), (List.take 1 ([(0 : Int)]), ([], []))))
theorem f33.eq (n : Nat) (x : Unit) : rK E33 C33 n 1 33 (zu [] x) (zq [(true, tTable)]) = f33.g n x := by
 kernel_rfl
theorem f33.codes : CdO E33 C33 := zm (aC Tryz.func33 aN) (by kernel_rfl)
theorem f33.ok (h : Run F33 f33.g)  : CO 33 (zk [] [(true, tTable)] false F33) :=
 zn zE zD zj f33.codes (fun h => by cases h) (h.go f33.eq)
def Ud : Con := zk [] [(true, tTable)] false F33
def Q3 (x : ByteArray) : Option (zc × Int) := bif zd x ⟨#[49]⟩ then some (db 1, 0) else bif zd x ⟨#[53]⟩ then some (db 5, 0) else bif zd x ⟨#[97]⟩ then some (zeroV, 11) else none
abbrev f219.A0 : Sig := [(true, tValue), (false, .int .i64)]
def Pt : FuncId → Option Con := (zN 236 lM (zN 75 rX yc))
noncomputable def QS : List (FuncId × Func) := [(219, Tryz.f219), (96, Tryz.f96), (147, Tryz.f147), (222, Tryz.f222), (223, Tryz.f223), (230, Tryz.f230), (234, Tryz.f234), (235, Tryz.f235), (237, Tryz.f237), (244, Tryz.f244)]
def f219.at0 : ByteArray := (⟨#[49]⟩ : BA)
def f219.g0 (n : Nat) : Option (zc × Int) := (Xu TT Pt n ann (xW QS) 20 219 (zu [(false, .str)] f219.at0) []).bind fun p => (zq f219.A0) p.1 p.2
def f219.at1 : ByteArray := (⟨#[53]⟩ : BA)
def f219.g1 (n : Nat) : Option (zc × Int) := (Xu TT Pt n ann (xW QS) 20 219 (zu [(false, .str)] f219.at1) []).bind fun p => (zq f219.A0) p.1 p.2
def f219.at2 : ByteArray := (⟨#[97]⟩ : BA)
def f219.g2 (n : Nat) : Option (zc × Int) := (Xu TT Pt n ann (xW QS) 20 219 (zu [(false, .str)] f219.at2) []).bind fun p => (zq f219.A0) p.1 p.2
set_option maxHeartbeats 0 in
theorem f219.codes : tD Tryz.prog (xW QS) := lg (by intro p hp; simp only [QS, NM, List.not_mem_nil, or_false] at hp; rcases hp with rfl | rfl | rfl | rfl | rfl | rfl | rfl | rfl | rfl | rfl <;> first | exact Tryz.func219 | exact Tryz.func96 | exact Tryz.func147 | exact Tryz.func222 | exact Tryz.func223 | exact Tryz.func230 | exact Tryz.func234 | exact Tryz.func235 | exact Tryz.func237 | exact Tryz.func244) (by kernel_rfl)
theorem f219.ok (h : ∀ X Y, Q3 X = some Y → (X = f219.at0 ∧ ∃ n, f219.g0 n = some Y) ∨ (X = f219.at1 ∧ ∃ n, f219.g1 n = some Y) ∨ (X = f219.at2 ∧ ∃ n, f219.g2 n = some Y)) (e75 : CO 75 rX) (e236 : CO 236 lM) : CO 219 (zk [(false, .str)] f219.A0 false Q3) :=
 pi zE zD (zf e236 (zf e75 zj)) f219.codes (fun h => by cases h) fun X Y hF => by
 rcases h X Y hF with ⟨e, n, hn⟩ | ⟨e, n, hn⟩ | ⟨e, n, hn⟩ <;> (subst e; exact ⟨n, hn⟩)
def ZQ : Con := zk [(false, .str)] f219.A0 false Q3
abbrev f32.A0 : Sig := [(true, tExpr), (false, .int .i64)]
abbrev f32.A1 : Sig := [(true, tTable), (false, .str)]
def E32 : FuncId → Option Con := (zN 236 lM (zN 221 aU (zN 219 ZQ (zN 152 Z4 (zN 104 tX (zN 86 iF (zN 75 rX (zN 59 UJ (zN 58 iP (zN 40 iw yc))))))))))
noncomputable def C32 : List (FuncId × Func) := [(32, Tryz.f32), (60, Tryz.f60), (96, Tryz.f96), (98, Tryz.f98), (99, Tryz.f99), (147, Tryz.f147), (148, Tryz.f148), (149, Tryz.f149), (150, Tryz.f150), (151, Tryz.f151), (153, Tryz.f153), (174, Tryz.f174), (188, Tryz.f188), (199, Tryz.f199), (211, Tryz.f211), (217, Tryz.f217), (220, Tryz.f220), (222, Tryz.f222), (223, Tryz.f223), (230, Tryz.f230), (234, Tryz.f234), (235, Tryz.f235), (237, Tryz.f237), (244, Tryz.f244)]
def f32.at : zi × ByteArray := (((⟨#[116]⟩ : BA), (([((⟨#[97]⟩ : BA), ((2 : Int), (false, ((0 : Int), ((0 : Int), (0, (⟨#[]⟩ : BA)))))))] : List zR), (([(0 : Int)] : List Int), (([] : List yC), ([] : List YH))))), (⟨#[97, 32, 43, 32, 49, 32, 60, 32, 53]⟩ : BA))
def f32.g (n : Nat) : Option (zg × Int) := (Xu TT E32 n ann (xW C32) 40 32 (zu f32.A1 f32.at) []).bind fun p => (zq f32.A0) p.1 p.2
set_option maxHeartbeats 0 in
theorem f32.codes : tD Tryz.prog (xW C32) := lg (by intro p hp; simp only [C32, NM, List.not_mem_nil, or_false] at hp; rcases hp with rfl | rfl | rfl | rfl | rfl | rfl | rfl | rfl | rfl | rfl | rfl | rfl | rfl | rfl | rfl | rfl | rfl | rfl | rfl | rfl | rfl | rfl | rfl | rfl <;> first | exact Tryz.func32 | exact Tryz.func60 | exact Tryz.func96 | exact Tryz.func98 | exact Tryz.func99 | exact Tryz.func147 | exact Tryz.func148 | exact Tryz.func149 | exact Tryz.func150 | exact Tryz.func151 | exact Tryz.func153 | exact Tryz.func174 | exact Tryz.func188 | exact Tryz.func199 | exact Tryz.func211 | exact Tryz.func217 | exact Tryz.func220 | exact Tryz.func222 | exact Tryz.func223 | exact Tryz.func230 | exact Tryz.func234 | exact Tryz.func235 | exact Tryz.func237 | exact Tryz.func244) (by kernel_rfl)
theorem f32.ok (h : ∀ X Y, F32 X = some Y → X = f32.at ∧ ∃ n, f32.g n = some Y) (e40 : CO 40 iw) (e58 : CO 58 iP) (e59 : CO 59 UJ) (e75 : CO 75 rX) (e86 : CO 86 iF) (e104 : CO 104 tX) (e152 : CO 152 Z4) (e219 : CO 219 ZQ) (e221 : CO 221 aU) (e236 : CO 236 lM) : CO 32 (zk f32.A1 f32.A0 false F32) :=
 pi zE zD (zf e236 (zf e221 (zf e219 (zf e152 (zf e104 (zf e86 (zf e75 (zf e59 (zf e58 (zf e40 zj)))))))))) f32.codes (fun h => by cases h) fun X Y hF => by
 rcases h X Y hF with ⟨e, n, hn⟩ <;> (subst e; exact ⟨n, hn⟩)
def Tw : Con := zk f32.A1 f32.A0 false F32
end
end Go.Proofs.YtefddghdaimklaaGreatDoor.AI
