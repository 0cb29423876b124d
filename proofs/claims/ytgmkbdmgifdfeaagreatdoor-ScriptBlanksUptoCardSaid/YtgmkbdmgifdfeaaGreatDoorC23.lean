/- A part of a proof: ScriptBlanks. -/
import Derived.Test.YtgmkbdmgifdfeaaGreatDoorC22
set_option linter.unusedVariables false
set_option linter.unusedSimpArgs false
set_option maxRecDepth 8000
namespace Go.Proofs.YtgmkbdmgifdfeaaGreatDoor
open Go Go.Ev
def Qfd:List UInt8:=[105,105,110,105,110,110,105,105,105]
def i0 (f:Fs) (k:Nat):Int:=f.ints.getD k 0
def n0 (f:Fs) (k:Nat):Int:=f.nats.getD k 0
def Qlw (f:Fs):Stu:=⟨i0 f 2,n0 f 1,n0 f 2,i0 f 3,i0 f 4,i0 f 5,i0 f 0,i0 f 1,n0 f 0⟩
def Qa0 (k:Nat) (n:Int) (f:Fs):Stp :=
 let s:Stp := { stp0 with kind:=k,node:=n }
 match k with
 |1 => { s with ticks:=n0 f 0 }
 |2 => { s with stream:=i0 f 0,qc:=i0 f 1,qb:=i0 f 2 }
 |3 => { s with stream:=i0 f 0 }
 |4 => { s with stream:=i0 f 0 }
 |5 => { s with stream:=i0 f 0 }
 |6 => { s with stream:=i0 f 0,time:=n0 f 0,life:=n0 f 1,data:=f.text }
 |7 => { s with stream:=i0 f 0,seq:=n0 f 0 }
 |9 => { s with way:=f.way,place:=i0 f 0 }
 |10 => { s with way:=f.way,place:=i0 f 0 }
 |11 => { s with way:=f.way,place:=i0 f 0 }
 |12 => { s with way:=f.way,place:=i0 f 0,pos:=i0 f 1,mask:=n0 f 0 }
 |13 => { s with pos:=i0 f 0 }
 |14 => { s with choices:=f.ints }
 |16 => { s with stream:=i0 f 0 }
 |17 => { s with cursor:=i0 f 0 }
 |18 => { s with cursor:=i0 f 0,time:=n0 f 0 }
 |19 => { s with cursor:=i0 f 0 }
 |20 => { s with cursor:=i0 f 0 }
 |21 => { s with cursor:=i0 f 0 }
 |22 => { s with stream:=i0 f 0,time:=n0 f 0,to:=n0 f 1 }
 |_=>s
def iN:Nat→Nat
 |2=>3|3=>1|4=>1|5=>1|6=>1|7=>1|9=>1|10=>1|11=>1|12=>2|13=>1|16=>1|17=>1|18=>1|19=>1|20=>1|21=>1|22=>1|_=>0
def nN:Nat→Nat
 |1=>1|6=>2|7=>1|12=>1|18=>1|22=>2|_=>0
theorem Qpa {w:List UInt8} {v:Int} (h:Qfk w=some v):0≤v∧v≤4294967295:=by
 unfold Qfk Qc8 at h
 split at h
 ·rename_i hh
  have e:((Qd1 w:Nat):Int)=v:=Kai h
  have:=hh.2.2.2
  omega
 ·cases h
def Qba (k:Nat) (f:Fs):Prop:=k=14∨(f.ints.length=iN k∧f.nats.length=nN k∧(k=12→0≤n0 f 0∧n0 f 0≤4294967295))
theorem rd_i (w:List UInt8) (f:Fs):Qfm 105 w f=(Qau w).map fun v => { f with ints:=f.ints++[v] }:=rfl
theorem rd_n (w:List UInt8) (f:Fs):Qfm 110 w f=(Qa9 w).map fun v => { f with nats:=f.nats++[v] }:=rfl
theorem rd_m (w:List UInt8) (f:Fs):Qfm 109 w f=(Qfk w).map fun v => { f with nats:=f.nats++[v] }:=rfl
theorem rd_w (w:List UInt8) (f:Fs):Qfm 119 w f=(Qd2 w).map fun v => { f with way:=v }:=rfl
theorem rd_t (w:List UInt8) (f:Fs):Qfm 116 w f=(Qb8 w).map fun v => { f with text:=v }:=rfl
theorem readF_go {form:List UInt8} (h:form≠[99]) (ws:List (List UInt8)):Qa5 form ws=Qat form ws fs0:=by unfold Qa5;rw [if_neg h]
def Law (k:Nat) (n:Int) (ws:List (List UInt8)):Prop :=
 (∀ f,Qa5 (Qap k) ws=some f→Qal (fieldsOf k) { stp0 with kind:=k,node:=n } ws=some (Qa0 k n f,[])∧Qba k f) ∧
 (Qa5 (Qap k) ws=none→∀ s,Qal (fieldsOf k) { stp0 with kind:=k,node:=n } ws≠some (s,[]))
theorem law1 (n:Int) (ws:List (List UInt8)):Law 1 n ws:=by
 rcases ws with _|⟨a0,_|⟨a1,r⟩⟩
 ·(constructor<;>simp [Qap,Qa5,Qat,fieldsOf,Qal,Fd.read,Qa0,Qba,iN,nN,rd_i,rd_n,rd_m,rd_w,rd_t,fs0,stp0,i0,n0])
 ·cases h0:Qa9 a0<;>(constructor<;>simp [Qap,Qa5,Qat,fieldsOf,Qal,Fd.read,Qa0,Qba,iN,nN,rd_i,rd_n,rd_m,rd_w,rd_t,fs0,stp0,i0,n0,h0])
 ·cases h0:Qa9 a0<;>(constructor<;>simp [Qap,Qa5,Qat,fieldsOf,Qal,Fd.read,Qa0,Qba,iN,nN,rd_i,rd_n,rd_m,rd_w,rd_t,fs0,stp0,i0,n0,h0])
theorem law2 (n:Int) (ws:List (List UInt8)):Law 2 n ws:=by
 rcases ws with _|⟨a0,_|⟨a1,_|⟨a2,_|⟨a3,r⟩⟩⟩⟩
 ·(constructor<;>simp [Qap,Qa5,Qat,fieldsOf,Qal,Fd.read,Qa0,Qba,iN,nN,rd_i,rd_n,rd_m,rd_w,rd_t,fs0,stp0,i0,n0])
 ·cases h0:Qau a0<;>(constructor<;>simp [Qap,Qa5,Qat,fieldsOf,Qal,Fd.read,Qa0,Qba,iN,nN,rd_i,rd_n,rd_m,rd_w,rd_t,fs0,stp0,i0,n0,h0])
 ·cases h0:Qau a0<;>cases h1:Qau a1<;>(constructor<;>simp [Qap,Qa5,Qat,fieldsOf,Qal,Fd.read,Qa0,Qba,iN,nN,rd_i,rd_n,rd_m,rd_w,rd_t,fs0,stp0,i0,n0,h0,h1])
 ·cases h0:Qau a0<;>cases h1:Qau a1<;>cases h2:Qau a2<;>(constructor<;>simp [Qap,Qa5,Qat,fieldsOf,Qal,Fd.read,Qa0,Qba,iN,nN,rd_i,rd_n,rd_m,rd_w,rd_t,fs0,stp0,i0,n0,h0,h1,h2])
 ·cases h0:Qau a0<;>cases h1:Qau a1<;>cases h2:Qau a2<;>(constructor<;>simp [Qap,Qa5,Qat,fieldsOf,Qal,Fd.read,Qa0,Qba,iN,nN,rd_i,rd_n,rd_m,rd_w,rd_t,fs0,stp0,i0,n0,h0,h1,h2])
theorem law3 (n:Int) (ws:List (List UInt8)):Law 3 n ws:=by
 rcases ws with _|⟨a0,_|⟨a1,r⟩⟩
 ·(constructor<;>simp [Qap,Qa5,Qat,fieldsOf,Qal,Fd.read,Qa0,Qba,iN,nN,rd_i,rd_n,rd_m,rd_w,rd_t,fs0,stp0,i0,n0])
 ·cases h0:Qau a0<;>(constructor<;>simp [Qap,Qa5,Qat,fieldsOf,Qal,Fd.read,Qa0,Qba,iN,nN,rd_i,rd_n,rd_m,rd_w,rd_t,fs0,stp0,i0,n0,h0])
 ·cases h0:Qau a0<;>(constructor<;>simp [Qap,Qa5,Qat,fieldsOf,Qal,Fd.read,Qa0,Qba,iN,nN,rd_i,rd_n,rd_m,rd_w,rd_t,fs0,stp0,i0,n0,h0])
theorem law4 (n:Int) (ws:List (List UInt8)):Law 4 n ws:=by
 rcases ws with _|⟨a0,_|⟨a1,r⟩⟩
 ·(constructor<;>simp [Qap,Qa5,Qat,fieldsOf,Qal,Fd.read,Qa0,Qba,iN,nN,rd_i,rd_n,rd_m,rd_w,rd_t,fs0,stp0,i0,n0])
 ·cases h0:Qau a0<;>(constructor<;>simp [Qap,Qa5,Qat,fieldsOf,Qal,Fd.read,Qa0,Qba,iN,nN,rd_i,rd_n,rd_m,rd_w,rd_t,fs0,stp0,i0,n0,h0])
 ·cases h0:Qau a0<;>(constructor<;>simp [Qap,Qa5,Qat,fieldsOf,Qal,Fd.read,Qa0,Qba,iN,nN,rd_i,rd_n,rd_m,rd_w,rd_t,fs0,stp0,i0,n0,h0])
theorem law5 (n:Int) (ws:List (List UInt8)):Law 5 n ws:=by
 rcases ws with _|⟨a0,_|⟨a1,r⟩⟩
 ·(constructor<;>simp [Qap,Qa5,Qat,fieldsOf,Qal,Fd.read,Qa0,Qba,iN,nN,rd_i,rd_n,rd_m,rd_w,rd_t,fs0,stp0,i0,n0])
 ·cases h0:Qau a0<;>(constructor<;>simp [Qap,Qa5,Qat,fieldsOf,Qal,Fd.read,Qa0,Qba,iN,nN,rd_i,rd_n,rd_m,rd_w,rd_t,fs0,stp0,i0,n0,h0])
 ·cases h0:Qau a0<;>(constructor<;>simp [Qap,Qa5,Qat,fieldsOf,Qal,Fd.read,Qa0,Qba,iN,nN,rd_i,rd_n,rd_m,rd_w,rd_t,fs0,stp0,i0,n0,h0])
theorem law6 (n:Int) (ws:List (List UInt8)):Law 6 n ws:=by
 rcases ws with _|⟨a0,_|⟨a1,_|⟨a2,_|⟨a3,_|⟨a4,r⟩⟩⟩⟩⟩
 ·(constructor<;>simp [Qap,Qa5,Qat,fieldsOf,Qal,Fd.read,Qa0,Qba,iN,nN,rd_i,rd_n,rd_m,rd_w,rd_t,fs0,stp0,i0,n0])
 ·cases h0:Qau a0<;>(constructor<;>simp [Qap,Qa5,Qat,fieldsOf,Qal,Fd.read,Qa0,Qba,iN,nN,rd_i,rd_n,rd_m,rd_w,rd_t,fs0,stp0,i0,n0,h0])
 ·cases h0:Qau a0<;>cases h1:Qa9 a1<;>(constructor<;>simp [Qap,Qa5,Qat,fieldsOf,Qal,Fd.read,Qa0,Qba,iN,nN,rd_i,rd_n,rd_m,rd_w,rd_t,fs0,stp0,i0,n0,h0,h1])
 ·cases h0:Qau a0<;>cases h1:Qa9 a1<;>cases h2:Qa9 a2<;>(constructor<;>simp [Qap,Qa5,Qat,fieldsOf,Qal,Fd.read,Qa0,Qba,iN,nN,rd_i,rd_n,rd_m,rd_w,rd_t,fs0,stp0,i0,n0,h0,h1,h2])
 ·cases h0:Qau a0<;>cases h1:Qa9 a1<;>cases h2:Qa9 a2<;>cases h3:Qb8 a3<;>(constructor<;>simp [Qap,Qa5,Qat,fieldsOf,Qal,Fd.read,Qa0,Qba,iN,nN,rd_i,rd_n,rd_m,rd_w,rd_t,fs0,stp0,i0,n0,h0,h1,h2,h3])
 ·cases h0:Qau a0<;>cases h1:Qa9 a1<;>cases h2:Qa9 a2<;>cases h3:Qb8 a3<;>(constructor<;>simp [Qap,Qa5,Qat,fieldsOf,Qal,Fd.read,Qa0,Qba,iN,nN,rd_i,rd_n,rd_m,rd_w,rd_t,fs0,stp0,i0,n0,h0,h1,h2,h3])
theorem law7 (n:Int) (ws:List (List UInt8)):Law 7 n ws:=by
 rcases ws with _|⟨a0,_|⟨a1,_|⟨a2,r⟩⟩⟩
 ·(constructor<;>simp [Qap,Qa5,Qat,fieldsOf,Qal,Fd.read,Qa0,Qba,iN,nN,rd_i,rd_n,rd_m,rd_w,rd_t,fs0,stp0,i0,n0])
 ·cases h0:Qau a0<;>(constructor<;>simp [Qap,Qa5,Qat,fieldsOf,Qal,Fd.read,Qa0,Qba,iN,nN,rd_i,rd_n,rd_m,rd_w,rd_t,fs0,stp0,i0,n0,h0])
 ·cases h0:Qau a0<;>cases h1:Qa9 a1<;>(constructor<;>simp [Qap,Qa5,Qat,fieldsOf,Qal,Fd.read,Qa0,Qba,iN,nN,rd_i,rd_n,rd_m,rd_w,rd_t,fs0,stp0,i0,n0,h0,h1])
 ·cases h0:Qau a0<;>cases h1:Qa9 a1<;>(constructor<;>simp [Qap,Qa5,Qat,fieldsOf,Qal,Fd.read,Qa0,Qba,iN,nN,rd_i,rd_n,rd_m,rd_w,rd_t,fs0,stp0,i0,n0,h0,h1])
theorem law8 (n:Int) (ws:List (List UInt8)):Law 8 n ws:=by
 rcases ws with _|⟨a0,r⟩
 ·(constructor<;>simp [Qap,Qa5,Qat,fieldsOf,Qal,Fd.read,Qa0,Qba,iN,nN,rd_i,rd_n,rd_m,rd_w,rd_t,fs0,stp0,i0,n0])
 ·(constructor<;>simp [Qap,Qa5,Qat,fieldsOf,Qal,Fd.read,Qa0,Qba,iN,nN,rd_i,rd_n,rd_m,rd_w,rd_t,fs0,stp0,i0,n0])
theorem law9 (n:Int) (ws:List (List UInt8)):Law 9 n ws:=by
 rcases ws with _|⟨a0,_|⟨a1,_|⟨a2,r⟩⟩⟩
 ·(constructor<;>simp [Qap,Qa5,Qat,fieldsOf,Qal,Fd.read,Qa0,Qba,iN,nN,rd_i,rd_n,rd_m,rd_w,rd_t,fs0,stp0,i0,n0])
 ·cases h0:Qd2 a0<;>(constructor<;>simp [Qap,Qa5,Qat,fieldsOf,Qal,Fd.read,Qa0,Qba,iN,nN,rd_i,rd_n,rd_m,rd_w,rd_t,fs0,stp0,i0,n0,h0])
 ·cases h0:Qd2 a0<;>cases h1:Qau a1<;>(constructor<;>simp [Qap,Qa5,Qat,fieldsOf,Qal,Fd.read,Qa0,Qba,iN,nN,rd_i,rd_n,rd_m,rd_w,rd_t,fs0,stp0,i0,n0,h0,h1])
 ·cases h0:Qd2 a0<;>cases h1:Qau a1<;>(constructor<;>simp [Qap,Qa5,Qat,fieldsOf,Qal,Fd.read,Qa0,Qba,iN,nN,rd_i,rd_n,rd_m,rd_w,rd_t,fs0,stp0,i0,n0,h0,h1])
theorem law10 (n:Int) (ws:List (List UInt8)):Law 10 n ws:=by
 rcases ws with _|⟨a0,_|⟨a1,_|⟨a2,r⟩⟩⟩
 ·(constructor<;>simp [Qap,Qa5,Qat,fieldsOf,Qal,Fd.read,Qa0,Qba,iN,nN,rd_i,rd_n,rd_m,rd_w,rd_t,fs0,stp0,i0,n0])
 ·cases h0:Qd2 a0<;>(constructor<;>simp [Qap,Qa5,Qat,fieldsOf,Qal,Fd.read,Qa0,Qba,iN,nN,rd_i,rd_n,rd_m,rd_w,rd_t,fs0,stp0,i0,n0,h0])
 ·cases h0:Qd2 a0<;>cases h1:Qau a1<;>(constructor<;>simp [Qap,Qa5,Qat,fieldsOf,Qal,Fd.read,Qa0,Qba,iN,nN,rd_i,rd_n,rd_m,rd_w,rd_t,fs0,stp0,i0,n0,h0,h1])
 ·cases h0:Qd2 a0<;>cases h1:Qau a1<;>(constructor<;>simp [Qap,Qa5,Qat,fieldsOf,Qal,Fd.read,Qa0,Qba,iN,nN,rd_i,rd_n,rd_m,rd_w,rd_t,fs0,stp0,i0,n0,h0,h1])
theorem law11 (n:Int) (ws:List (List UInt8)):Law 11 n ws:=by
 rcases ws with _|⟨a0,_|⟨a1,_|⟨a2,r⟩⟩⟩
 ·(constructor<;>simp [Qap,Qa5,Qat,fieldsOf,Qal,Fd.read,Qa0,Qba,iN,nN,rd_i,rd_n,rd_m,rd_w,rd_t,fs0,stp0,i0,n0])
 ·cases h0:Qd2 a0<;>(constructor<;>simp [Qap,Qa5,Qat,fieldsOf,Qal,Fd.read,Qa0,Qba,iN,nN,rd_i,rd_n,rd_m,rd_w,rd_t,fs0,stp0,i0,n0,h0])
 ·cases h0:Qd2 a0<;>cases h1:Qau a1<;>(constructor<;>simp [Qap,Qa5,Qat,fieldsOf,Qal,Fd.read,Qa0,Qba,iN,nN,rd_i,rd_n,rd_m,rd_w,rd_t,fs0,stp0,i0,n0,h0,h1])
 ·cases h0:Qd2 a0<;>cases h1:Qau a1<;>(constructor<;>simp [Qap,Qa5,Qat,fieldsOf,Qal,Fd.read,Qa0,Qba,iN,nN,rd_i,rd_n,rd_m,rd_w,rd_t,fs0,stp0,i0,n0,h0,h1])
theorem law12 (n:Int) (ws:List (List UInt8)):Law 12 n ws:=by
 rcases ws with _|⟨a0,_|⟨a1,_|⟨a2,_|⟨a3,_|⟨a4,r⟩⟩⟩⟩⟩
 ·(constructor<;>simp [Qap,Qa5,Qat,fieldsOf,Qal,Fd.read,Qa0,Qba,iN,nN,rd_i,rd_n,rd_m,rd_w,rd_t,fs0,stp0,i0,n0])
 ·cases h0:Qd2 a0<;>(constructor<;>simp [Qap,Qa5,Qat,fieldsOf,Qal,Fd.read,Qa0,Qba,iN,nN,rd_i,rd_n,rd_m,rd_w,rd_t,fs0,stp0,i0,n0,h0])
 ·cases h0:Qd2 a0<;>cases h1:Qau a1<;>(constructor<;>simp [Qap,Qa5,Qat,fieldsOf,Qal,Fd.read,Qa0,Qba,iN,nN,rd_i,rd_n,rd_m,rd_w,rd_t,fs0,stp0,i0,n0,h0,h1])
 ·cases h0:Qd2 a0<;>cases h1:Qau a1<;>cases h2:Qau a2<;>(constructor<;>simp [Qap,Qa5,Qat,fieldsOf,Qal,Fd.read,Qa0,Qba,iN,nN,rd_i,rd_n,rd_m,rd_w,rd_t,fs0,stp0,i0,n0,h0,h1,h2])
 ·cases h0:Qd2 a0<;>cases h1:Qau a1<;>cases h2:Qau a2<;>cases h3:Qfk a3<;>(constructor<;>simp [Qap,Qa5,Qat,fieldsOf,Qal,Fd.read,Qa0,Qba,iN,nN,rd_i,rd_n,rd_m,rd_w,rd_t,fs0,stp0,i0,n0,h0,h1,h2,h3])<;>exact Qpa h3
 ·cases h0:Qd2 a0<;>cases h1:Qau a1<;>cases h2:Qau a2<;>cases h3:Qfk a3<;>(constructor<;>simp [Qap,Qa5,Qat,fieldsOf,Qal,Fd.read,Qa0,Qba,iN,nN,rd_i,rd_n,rd_m,rd_w,rd_t,fs0,stp0,i0,n0,h0,h1,h2,h3])
theorem law13 (n:Int) (ws:List (List UInt8)):Law 13 n ws:=by
 rcases ws with _|⟨a0,_|⟨a1,r⟩⟩
 ·(constructor<;>simp [Qap,Qa5,Qat,fieldsOf,Qal,Fd.read,Qa0,Qba,iN,nN,rd_i,rd_n,rd_m,rd_w,rd_t,fs0,stp0,i0,n0])
 ·cases h0:Qau a0<;>(constructor<;>simp [Qap,Qa5,Qat,fieldsOf,Qal,Fd.read,Qa0,Qba,iN,nN,rd_i,rd_n,rd_m,rd_w,rd_t,fs0,stp0,i0,n0,h0])
 ·cases h0:Qau a0<;>(constructor<;>simp [Qap,Qa5,Qat,fieldsOf,Qal,Fd.read,Qa0,Qba,iN,nN,rd_i,rd_n,rd_m,rd_w,rd_t,fs0,stp0,i0,n0,h0])
theorem law15 (n:Int) (ws:List (List UInt8)):Law 15 n ws:=by
 rcases ws with _|⟨a0,r⟩
 ·(constructor<;>simp [Qap,Qa5,Qat,fieldsOf,Qal,Fd.read,Qa0,Qba,iN,nN,rd_i,rd_n,rd_m,rd_w,rd_t,fs0,stp0,i0,n0])
 ·(constructor<;>simp [Qap,Qa5,Qat,fieldsOf,Qal,Fd.read,Qa0,Qba,iN,nN,rd_i,rd_n,rd_m,rd_w,rd_t,fs0,stp0,i0,n0])
theorem law16 (n:Int) (ws:List (List UInt8)):Law 16 n ws:=by
 rcases ws with _|⟨a0,_|⟨a1,r⟩⟩
 ·(constructor<;>simp [Qap,Qa5,Qat,fieldsOf,Qal,Fd.read,Qa0,Qba,iN,nN,rd_i,rd_n,rd_m,rd_w,rd_t,fs0,stp0,i0,n0])
 ·cases h0:Qau a0<;>(constructor<;>simp [Qap,Qa5,Qat,fieldsOf,Qal,Fd.read,Qa0,Qba,iN,nN,rd_i,rd_n,rd_m,rd_w,rd_t,fs0,stp0,i0,n0,h0])
 ·cases h0:Qau a0<;>(constructor<;>simp [Qap,Qa5,Qat,fieldsOf,Qal,Fd.read,Qa0,Qba,iN,nN,rd_i,rd_n,rd_m,rd_w,rd_t,fs0,stp0,i0,n0,h0])
theorem law17 (n:Int) (ws:List (List UInt8)):Law 17 n ws:=by
 rcases ws with _|⟨a0,_|⟨a1,r⟩⟩
 ·(constructor<;>simp [Qap,Qa5,Qat,fieldsOf,Qal,Fd.read,Qa0,Qba,iN,nN,rd_i,rd_n,rd_m,rd_w,rd_t,fs0,stp0,i0,n0])
 ·cases h0:Qau a0<;>(constructor<;>simp [Qap,Qa5,Qat,fieldsOf,Qal,Fd.read,Qa0,Qba,iN,nN,rd_i,rd_n,rd_m,rd_w,rd_t,fs0,stp0,i0,n0,h0])
 ·cases h0:Qau a0<;>(constructor<;>simp [Qap,Qa5,Qat,fieldsOf,Qal,Fd.read,Qa0,Qba,iN,nN,rd_i,rd_n,rd_m,rd_w,rd_t,fs0,stp0,i0,n0,h0])
theorem law18 (n:Int) (ws:List (List UInt8)):Law 18 n ws:=by
 rcases ws with _|⟨a0,_|⟨a1,_|⟨a2,r⟩⟩⟩
 ·(constructor<;>simp [Qap,Qa5,Qat,fieldsOf,Qal,Fd.read,Qa0,Qba,iN,nN,rd_i,rd_n,rd_m,rd_w,rd_t,fs0,stp0,i0,n0])
 ·cases h0:Qau a0<;>(constructor<;>simp [Qap,Qa5,Qat,fieldsOf,Qal,Fd.read,Qa0,Qba,iN,nN,rd_i,rd_n,rd_m,rd_w,rd_t,fs0,stp0,i0,n0,h0])
 ·cases h0:Qau a0<;>cases h1:Qa9 a1<;>(constructor<;>simp [Qap,Qa5,Qat,fieldsOf,Qal,Fd.read,Qa0,Qba,iN,nN,rd_i,rd_n,rd_m,rd_w,rd_t,fs0,stp0,i0,n0,h0,h1])
 ·cases h0:Qau a0<;>cases h1:Qa9 a1<;>(constructor<;>simp [Qap,Qa5,Qat,fieldsOf,Qal,Fd.read,Qa0,Qba,iN,nN,rd_i,rd_n,rd_m,rd_w,rd_t,fs0,stp0,i0,n0,h0,h1])
theorem law19 (n:Int) (ws:List (List UInt8)):Law 19 n ws:=by
 rcases ws with _|⟨a0,_|⟨a1,r⟩⟩
 ·(constructor<;>simp [Qap,Qa5,Qat,fieldsOf,Qal,Fd.read,Qa0,Qba,iN,nN,rd_i,rd_n,rd_m,rd_w,rd_t,fs0,stp0,i0,n0])
 ·cases h0:Qau a0<;>(constructor<;>simp [Qap,Qa5,Qat,fieldsOf,Qal,Fd.read,Qa0,Qba,iN,nN,rd_i,rd_n,rd_m,rd_w,rd_t,fs0,stp0,i0,n0,h0])
 ·cases h0:Qau a0<;>(constructor<;>simp [Qap,Qa5,Qat,fieldsOf,Qal,Fd.read,Qa0,Qba,iN,nN,rd_i,rd_n,rd_m,rd_w,rd_t,fs0,stp0,i0,n0,h0])
theorem law20 (n:Int) (ws:List (List UInt8)):Law 20 n ws:=by
 rcases ws with _|⟨a0,_|⟨a1,r⟩⟩
 ·(constructor<;>simp [Qap,Qa5,Qat,fieldsOf,Qal,Fd.read,Qa0,Qba,iN,nN,rd_i,rd_n,rd_m,rd_w,rd_t,fs0,stp0,i0,n0])
 ·cases h0:Qau a0<;>(constructor<;>simp [Qap,Qa5,Qat,fieldsOf,Qal,Fd.read,Qa0,Qba,iN,nN,rd_i,rd_n,rd_m,rd_w,rd_t,fs0,stp0,i0,n0,h0])
 ·cases h0:Qau a0<;>(constructor<;>simp [Qap,Qa5,Qat,fieldsOf,Qal,Fd.read,Qa0,Qba,iN,nN,rd_i,rd_n,rd_m,rd_w,rd_t,fs0,stp0,i0,n0,h0])
theorem law21 (n:Int) (ws:List (List UInt8)):Law 21 n ws:=by
 rcases ws with _|⟨a0,_|⟨a1,r⟩⟩
 ·(constructor<;>simp [Qap,Qa5,Qat,fieldsOf,Qal,Fd.read,Qa0,Qba,iN,nN,rd_i,rd_n,rd_m,rd_w,rd_t,fs0,stp0,i0,n0])
 ·cases h0:Qau a0<;>(constructor<;>simp [Qap,Qa5,Qat,fieldsOf,Qal,Fd.read,Qa0,Qba,iN,nN,rd_i,rd_n,rd_m,rd_w,rd_t,fs0,stp0,i0,n0,h0])
 ·cases h0:Qau a0<;>(constructor<;>simp [Qap,Qa5,Qat,fieldsOf,Qal,Fd.read,Qa0,Qba,iN,nN,rd_i,rd_n,rd_m,rd_w,rd_t,fs0,stp0,i0,n0,h0])
theorem law22 (n:Int) (ws:List (List UInt8)):Law 22 n ws:=by
 rcases ws with _|⟨a0,_|⟨a1,_|⟨a2,_|⟨a3,r⟩⟩⟩⟩
 ·(constructor<;>simp [Qap,Qa5,Qat,fieldsOf,Qal,Fd.read,Qa0,Qba,iN,nN,rd_i,rd_n,rd_m,rd_w,rd_t,fs0,stp0,i0,n0])
 ·cases h0:Qau a0<;>(constructor<;>simp [Qap,Qa5,Qat,fieldsOf,Qal,Fd.read,Qa0,Qba,iN,nN,rd_i,rd_n,rd_m,rd_w,rd_t,fs0,stp0,i0,n0,h0])
 ·cases h0:Qau a0<;>cases h1:Qa9 a1<;>(constructor<;>simp [Qap,Qa5,Qat,fieldsOf,Qal,Fd.read,Qa0,Qba,iN,nN,rd_i,rd_n,rd_m,rd_w,rd_t,fs0,stp0,i0,n0,h0,h1])
 ·cases h0:Qau a0<;>cases h1:Qa9 a1<;>cases h2:Qa9 a2<;>(constructor<;>simp [Qap,Qa5,Qat,fieldsOf,Qal,Fd.read,Qa0,Qba,iN,nN,rd_i,rd_n,rd_m,rd_w,rd_t,fs0,stp0,i0,n0,h0,h1,h2])
 ·cases h0:Qau a0<;>cases h1:Qa9 a1<;>cases h2:Qa9 a2<;>(constructor<;>simp [Qap,Qa5,Qat,fieldsOf,Qal,Fd.read,Qa0,Qba,iN,nN,rd_i,rd_n,rd_m,rd_w,rd_t,fs0,stp0,i0,n0,h0,h1,h2])
theorem law14 (n:Int) (ws:List (List UInt8)):Law 14 n ws:=by
 have e:∀ s:Stp,Qal (fieldsOf 14) s ws=(Qb7 ws).map fun l=>({ s with choices:=s.choices++l },[]):=fun s=>by cases ws<;>simp only [fieldsOf,Qal,Fd.read]<;>cases Qb7 _<;>rfl
 unfold Law;rw [e];cases h:Qb7 ws<;>(constructor<;>simp [Qap,Qa5,Qa0,Qba,fs0,stp0,h])
theorem read_law:∀ (k:Nat) (n:Int) (ws:List (List UInt8)),1≤k→k≤22→Law k n ws
 |1,n,ws,_,_=>law1 n ws
 |2,n,ws,_,_=>law2 n ws
 |3,n,ws,_,_=>law3 n ws
 |4,n,ws,_,_=>law4 n ws
 |5,n,ws,_,_=>law5 n ws
 |6,n,ws,_,_=>law6 n ws
 |7,n,ws,_,_=>law7 n ws
 |8,n,ws,_,_=>law8 n ws
 |9,n,ws,_,_=>law9 n ws
 |10,n,ws,_,_=>law10 n ws
 |11,n,ws,_,_=>law11 n ws
 |12,n,ws,_,_=>law12 n ws
 |13,n,ws,_,_=>law13 n ws
 |14,n,ws,_,_=>law14 n ws
 |15,n,ws,_,_=>law15 n ws
 |16,n,ws,_,_=>law16 n ws
 |17,n,ws,_,_=>law17 n ws
 |18,n,ws,_,_=>law18 n ws
 |19,n,ws,_,_=>law19 n ws
 |20,n,ws,_,_=>law20 n ws
 |21,n,ws,_,_=>law21 n ws
 |22,n,ws,_,_=>law22 n ws
 |0,_,_,h,_=>absurd h (by omega)
 |k+23,_,_,_,h=>absurd h (by omega)
def Qu5 (ws:List (List UInt8)):Prop:=(∀ f,Qa5 Qfd ws=some f→Qda ws=some (Qlw f)∧f.ints.length=6∧f.nats.length=3)∧(Qa5 Qfd ws=none→Qda ws=none)
theorem Qe0 {ws:List (List UInt8)} (h:Qfd.length≠ws.length) (h2:Qda ws=none):Qu5 ws:=by
 have e:Qa5 Qfd ws=none:=by rw [readF_go (by decide)];exact Qkt _ _ _ h
 exact⟨fun f hf=>by rw [e] at hf; (cases hf),fun _=>h2⟩
theorem head_law (ws:List (List UInt8)):Qu5 ws:=by
 rcases ws with _|⟨a0,_|⟨a1,_|⟨a2,_|⟨a3,_|⟨a4,_|⟨a5,_|⟨a6,_|⟨a7,_|⟨a8,_|⟨a9,r⟩⟩⟩⟩⟩⟩⟩⟩⟩⟩
 ·exact Qe0 (by simp [Qfd]) rfl
 ·exact Qe0 (by simp [Qfd]) rfl
 ·exact Qe0 (by simp [Qfd]) rfl
 ·exact Qe0 (by simp [Qfd]) rfl
 ·exact Qe0 (by simp [Qfd]) rfl
 ·exact Qe0 (by simp [Qfd]) rfl
 ·exact Qe0 (by simp [Qfd]) rfl
 ·exact Qe0 (by simp [Qfd]) rfl
 ·exact Qe0 (by simp [Qfd]) rfl
 ·unfold Qu5
  cases h0:Qau a0 with
  |none=>(constructor<;>simp [Qa5,Qfd,Qat,Qda,rd_i,rd_n,fs0,Qlw,i0,n0,h0])
  |some v0 =>
   cases h1:Qau a1 with
   |none=>(constructor<;>simp [Qa5,Qfd,Qat,Qda,rd_i,rd_n,fs0,Qlw,i0,n0,h0,h1])
   |some v1 =>
    cases h2:Qa9 a2 with
    |none=>(constructor<;>simp [Qa5,Qfd,Qat,Qda,rd_i,rd_n,fs0,Qlw,i0,n0,h0,h1,h2])
    |some v2 =>
     cases h3:Qau a3 with
     |none=>(constructor<;>simp [Qa5,Qfd,Qat,Qda,rd_i,rd_n,fs0,Qlw,i0,n0,h0,h1,h2,h3])
     |some v3 =>
      cases h4:Qa9 a4 with
      |none=>(constructor<;>simp [Qa5,Qfd,Qat,Qda,rd_i,rd_n,fs0,Qlw,i0,n0,h0,h1,h2,h3,h4])
      |some v4 =>
       cases h5:Qa9 a5 with
       |none=>(constructor<;>simp [Qa5,Qfd,Qat,Qda,rd_i,rd_n,fs0,Qlw,i0,n0,h0,h1,h2,h3,h4,h5])
       |some v5 =>
        cases h6:Qau a6 with
        |none=>(constructor<;>simp [Qa5,Qfd,Qat,Qda,rd_i,rd_n,fs0,Qlw,i0,n0,h0,h1,h2,h3,h4,h5,h6])
        |some v6 =>
         cases h7:Qau a7 with
         |none=>(constructor<;>simp [Qa5,Qfd,Qat,Qda,rd_i,rd_n,fs0,Qlw,i0,n0,h0,h1,h2,h3,h4,h5,h6,h7])
         |some v7 =>
          cases h8:Qau a8 with
          |none=>(constructor<;>simp [Qa5,Qfd,Qat,Qda,rd_i,rd_n,fs0,Qlw,i0,n0,h0,h1,h2,h3,h4,h5,h6,h7,h8])
          |some v8 =>
           (constructor<;>simp [Qa5,Qfd,Qat,Qda,rd_i,rd_n,fs0,Qlw,i0,n0,h0,h1,h2,h3,h4,h5,h6,h7,h8])
 ·exact Qe0 (by simp [Qfd]) rfl
end Go.Proofs.YtgmkbdmgifdfeaaGreatDoor

set_option maxRecDepth 8000
namespace Go.Proofs.YtgmkbdmgifdfeaaGreatDoor
open Go Go.Ev
theorem Qqi {n0 n:Nat} {m:Mem} {v:Value} {e:TypeId} {cells:List Value} (h:Own n0 m v e n cells) (hn:n≠0):∃ b,v=.slice (some ⟨b,0,none⟩) n n∧n0≤b∧b<m.next∧vw m b=some ⟨true,e,true,cells⟩:=by
 rcases h with ⟨_,h,_⟩|h
 ·exact absurd h hn
 ·exact h
theorem len1 {l:List Int} (h:l.length=1):∃ a,l=[a]:=by
 match l,h with
 | [a],_=>exact⟨a,rfl⟩
theorem len2 {l:List Int} (h:l.length=2):∃ a b,l=[a,b]:=by
 match l,h with
 | [a,b],_=>exact⟨a,b,rfl⟩
theorem len3 {l:List Int} (h:l.length=3):∃ a b c,l=[a,b,c]:=by
 match l,h with
 | [a,b,c],_=>exact⟨a,b,c,rfl⟩
theorem len6 {l:List Int} (h:l.length=6):∃ a b c d e f,l=[a,b,c,d,e,f]:=by
 match l,h with
 | [a,b,c,d,e,f],_=>exact⟨a,b,c,d,e,f,rfl⟩
def Qow (ws:List (List UInt8)) (m:Mem) (r:Value) (m':Mem):Prop :=
 ∃ x ok,r=.tuple ⟨[.agg ⟨Qaj x⟩,.bool ok]⟩∧Old m.next m m'∧(ok=true→Qda ws=some x)∧(ok=false→Qda ws=none)
theorem rhead_ok {m:Mem} {v:Value} {ws:List (List UInt8)} (hW:Qdc m m.next v ws) (hl:ws.length≤2000000) (hlw:∀ w∈ws,w.length≤2000000) :
  Qar tb 77 [v] m (retR (Qow ws m)):=by
 refine Qay Tryz.func77 e77 rfl rfl ?_
 simp only [s77,List.replicate,Klc,Kln,Kca,Kna,Nat.reduceAdd,Nat.reduceSub]
 obtain⟨av,rfl⟩:=hW.shape
 obtain⟨r0,hr0⟩:∃ r0,r0=m.next:=⟨_,rfl⟩
 refine Qbg (fun l ds m'=>ds=[]∧Old m.next m m'∧m'.next=r0+1∧vw m' r0=some ⟨true,26,false,Qaj stu0⟩∧Sl [.slice av ws.length ws.length,undef,.pointer (some ⟨r0,0,none⟩),.bool false] 50 l) ?_ ?_
 rotate_left
 ·refine Qai fun Q' hQ=>?_
  simp
  subst hQ
  refine⟨rfl,(Old.refl _ _).new (Knr _) _,by rw [Qae,hr0],?_,Sl.mk (by rw [hr0];rfl) rfl⟩
  rw [Qcy,if_pos hr0];exact Qdn 26 (Qaj stu0)
 rintro l ds m1 ⟨rfl,hO1,hn1,hv1,ts,hts,rfl⟩
 have hW1:Qdc m1 m1.next (.slice av ws.length ws.length) ws:=by
  rcases hW with h|⟨b,all,h1,h2,h3⟩
  ·exact .inl h
  ·exact .inr ⟨b,all,by omega,by rw [hO1.vw h1];exact h2,h3⟩
 refine xsr fun Q' hQ=>?_
 simp [hts]
 refine Qao (Qad (by decide)) (Qvl (form:=Qfd) hW1 hl hlw (by decide)) ?_ (fun ch m' h=>h.elim)
 rintro r m2 ⟨f,a1,a2,a3,ok,rfl,hO2,h1,h2⟩
 rw [hn1] at hO2 h1
 simp only [fsC] at h1 ⊢
 simp [hts]
 subst hQ
 obtain⟨m3,hm3,hn3,hv3,hg3⟩:=Qel m2 141 4 [Value.slice none 0 0,Value.slice none 0 0,.int .i64 0,Value.slice none 0 0] [Value.slice a1 f.ints.length f.ints.length,Value.slice a2 f.nats.length f.nats.length,.int .i64 f.way,Value.slice a3 f.text.length f.text.length] rfl rfl rfl
 rw [← hm3]
 obtain⟨q,hq⟩:∃ q,q=m2.next:=⟨_,rfl⟩
 rw [← hq] at hn3 hv3 hg3 ⊢
 have hrq:r0+1≤q:=by have:=hO2.1;omega
 have hv3r:vw m3 r0=some ⟨true,26,false,Qaj stu0⟩:=by
  have:vw m2 r0=some ⟨true,26,false,Qaj stu0⟩:=by rw [hO2.vw (by omega)];exact hv1
  unfold vw at this ⊢;rw [hg3 _ (by omega)];exact this
 have hO3:Old m.next m m3:=⟨by omega,fun x hx=>by rw [hg3 x (by omega),hO2.2 x (by omega),hO1.2 x hx]⟩
 clear hm3
 have fin:∀ {x:Stu} {ok:Bool} {m4:Mem},Old m.next m m4→vw m4 r0=some ⟨true,26,false,Qaj stu0⟩→(ok=true→Qda ws=some x)→(ok=false→Qda ws=none)→∀ {l:List Value},(∃ x0 x1 ts,l=x0::x1::.pointer (some ⟨r0,0,none⟩)::.bool ok::ts)→endX tb Tryz.f77.results.toList (retR (Qow ws m)) (.jump .ret) l [] (stM m4 r0 0 (Qaj x)):=by
  rintro x ok m4 hO hv h1 h2 l ⟨x0,x1,ts,rfl⟩
  have hs:stOk ⟨true,26,false,Qaj stu0⟩ 0 (Qaj x)=true:=rfl
  refine⟨rfl,_,Qt3 (i:=2) (j:=3) rfl (Qic Ty.ti26 Ty.g26 (Qax hv hs) (by rw [Ty.s26];rfl)),x,ok,rfl,?_,h1,h2⟩
  exact⟨by rw [Qaq];exact hO.1,fun y hy=>by rw [Qbl (by omega)];exact hO.2 y hy⟩
 obtain⟨hl1,hl2⟩:=head_law ws
 simp only [Qaj,stu0] at hv3r fin
 cases ok with
 |false =>
  refine xseq (xseq (Qai fun Q' hQ=>?_))
  simp [hts]
  subst hQ
  refine xyes (by simp [hts]) ?_
  refine xsr fun Q' hQ=>?_
  simp [hts,hv3r,stOk,oneC]
  subst hQ
  refine xret (fin (x:=stu0) (ok:=false) hO3 hv3r (fun h=>by cases h) (fun _=>hl2 (h2 rfl)) ?_)
  exact⟨_,_,_,rfl⟩
 |true =>
  obtain⟨hrd,hF⟩:=h1 rfl
  obtain⟨hho,hil,hnl⟩:=hl1 f hrd
  obtain⟨vi,vn,vt,hagg,o1,o2,o3⟩:=hF
  have e1:vi=.slice a1 f.ints.length f.ints.length∧vn=.slice a2 f.nats.length f.nats.length:=by cases hagg;exact⟨rfl,rfl⟩
  obtain⟨rfl,rfl⟩:=e1
  obtain⟨bi,eb,hbi1,hbi2,hbi3⟩:=Qqi o1 (by omega)
  obtain⟨bn,en,hbn1,hbn2,hbn3⟩:=Qqi o2 (by omega)
  obtain rfl:a1=some ⟨bi,0,none⟩:=by cases eb;rfl
  obtain rfl:a2=some ⟨bn,0,none⟩:=by cases en;rfl
  obtain⟨ints,nats,way,text⟩:=f
  simp only at hil hnl hv3 hbi3 hbn3 hho o3 hts ⊢
  obtain⟨y0,y1,y2,y3,y4,y5,rfl⟩:=len6 hil
  obtain⟨z0,z1,z2,rfl⟩:=len3 hnl
  have hb3:vw m3 bi=some ⟨true,3,true,i64s [y0,y1,y2,y3,y4,y5]⟩:=by unfold vw at hbi3 ⊢;rw [hg3 _ (by omega)];exact hbi3
  have hb4:vw m3 bn=some ⟨true,22,true,u64s [z0,z1,z2]⟩:=by unfold vw at hbn3 ⊢;rw [hg3 _ (by omega)];exact hbn3
  simp only [i64s,u64s,List.map_cons,List.map_nil,Klc,Kln,Nat.zero_add,Nat.reduceAdd] at hb3 hb4 hv3
  refine xseq (xseq (Qai fun Q' hQ=>?_))
  simp [hts]
  subst hQ
  refine xno (by simp [hts]) (Qa2 ?_)
  refine xseq (xdrw 3 fun Q' hQ=>?_)
  simp [hts,hv3,hb3,hb4]
  subst hQ
  obtain⟨m4,hm4,hn4,hv4,hg4⟩:=Qel m3 24 6 [.int .i64 0,.int .u64 0,.int .u64 0,.int .i64 0,.int .i64 0,.int .i64 0] [.int .i64 y2,.int .u64 z1,.int .u64 z2,.int .i64 y3,.int .i64 y4,.int .i64 y5] rfl rfl rfl
  rw [← hm4]
  clear hm4
  have hk:∀ x,x<m3.next→vw m4 x=vw m3 x:=fun x hx=>by unfold vw;rw [hg4 x hx]
  have hv4r:=(hk r0 (by omega)).trans hv3r
  have hv4q:=(hk q (by omega)).trans hv3
  have hb34:=(hk bi (by omega)).trans hb3
  have hb44:=(hk bn (by omega)).trans hb4
  have hO4:Old m.next m m4:=⟨by have:=hO3.1;omega,fun x hx=>by rw [hg4 x (by omega)];exact hO3.2 x hx⟩
  refine xseq (xdrw 3 fun Q' hQ=>?_)
  simp [hts,hv4,hv4q,hb34,hb44,hv4r,stOk,oneC]
  subst hQ
  refine xret (fin (x:=Qlw ⟨[y0,y1,y2,y3,y4,y5],[z0,z1,z2],way,text⟩) (ok:=true) hO4 hv4r (fun _=>hho) (fun h=>by cases h) ?_)
  exact⟨_,_,_,rfl⟩
end Go.Proofs.YtgmkbdmgifdfeaaGreatDoor

set_option maxRecDepth 8000
namespace Go.Proofs.YtgmkbdmgifdfeaaGreatDoor
open Go Go.Ev
def dOf (k:Nat) (f:Fs) (a3:Option Addr):Value:=if k=6 then .slice a3 f.text.length f.text.length else .slice none 0 0
def cOf (k:Nat) (f:Fs) (a1:Option Addr):Value:=if k=14 then .slice a1 f.ints.length f.ints.length else .slice none 0 0
def Qdl (k:Nat) (n:Int) (f:Fs) (a1 a3:Option Addr) (m:Mem) (r:Value) (m':Mem):Prop :=
 r=.agg ⟨Qaa (Qa0 k n f) (dOf k f a3) (cOf k f a1)⟩∧Old m.next m m'
noncomputable def vwJ (m:Mem) (b i:Nat) (l:List Value):Option Vw:=vw (stM m b i l) b
theorem Qag (m:Mem) (b i:Nat) (l:List Value):vw (stM m b i l) b=match vw m b with
  |some V=>if stOk V i l=true then some ⟨true,V.elem,V.ext,spl V.cs i l⟩ else vwJ m b i l
  |none=>vwJ m b i l:=by
 cases h:vw m b with
 |none=>rfl
 |some V =>
  simp only
  split
  ·exact Qax h (by assumption)
  ·rfl
structure StM (m m2:Mem) (r0 k:Nat) (n:Int) (f:Fs) (a1 a2 a3:Option Addr):Prop where
 old:Old m.next m m2
 eq:r0=m.next
 v0:vw m2 r0=some ⟨true,88,false,Qaz k⟩
 v1:vw m2 (r0+1)=some ⟨true,141,false,fsC f a1 a2 a3⟩
 v2:vw m2 (r0+2)=some ⟨true,36,false,Qaa stp0 (.slice none 0 0) (.slice none 0 0)⟩
 v3:vw m2 (r0+3)=some ⟨true,36,false,Qaa { stp0 with kind:=k,node:=n } (.slice none 0 0) (.slice none 0 0)⟩
theorem Qdi {n0 n:Nat} {m m2:Mem} {v:Value} {e:TypeId} {cells:List Value} (h:Own n0 m v e n cells) (hn:n≠0) (hO:Old m.next m m2):∃ b,v=.slice (some ⟨b,0,none⟩) n n∧b<m.next∧vw m2 b=some ⟨true,e,true,cells⟩:=by
 obtain⟨b,h1,_,h3,h4⟩:=Qqi h hn
 exact⟨b,h1,h3,by rw [hO.vw h3];exact h4⟩
theorem FsV.parts {n0:Nat} {m:Mem} {f:Fs} {a1 a2 a3:Option Addr} (h:FsV n0 m f (.agg ⟨fsC f a1 a2 a3⟩)):Own n0 m (.slice a1 f.ints.length f.ints.length) 3 f.ints.length (i64s f.ints)∧Own n0 m (.slice a2 f.nats.length f.nats.length) 22 f.nats.length (u64s f.nats)∧Own n0 m (.slice a3 f.text.length f.text.length) 5 f.text.length (u8s f.text):=by
 obtain⟨vi,vn,vt,hagg,o1,o2,o3⟩:=h
 have e:vi=.slice a1 f.ints.length f.ints.length∧vn=.slice a2 f.nats.length f.nats.length∧vt=.slice a3 f.text.length f.text.length:=by cases hagg;exact⟨rfl,rfl,rfl⟩
 obtain⟨rfl,rfl,rfl⟩:=e
 exact⟨o1,o2,o3⟩
theorem Qcq {m:Mem} {k:Nat} {n:Int} {f:Fs} {a1 a2 a3:Option Addr} {B:SCode} {Q:Qde}
  (h:∀ (l ts:List Value) (m2:Mem) (x0 x2 x4:Value),ts.length=157→StM m m2 m.next k n f a1 a2 a3→l=[x0,.int .i64 n,x2,.pointer (some ⟨m.next,0,none⟩),x4,.pointer (some ⟨m.next+1,0,none⟩),.pointer (some ⟨m.next+2,0,none⟩),.pointer (some ⟨m.next+3,0,none⟩)]++ts→wpX tb ⟨79,.normal,none⟩ B l [] m2 Q) :
  wpX tb ⟨79,.normal,none⟩ (.seq (.reg [⟨some 3,.box 88 (.tmp 0),0,.no⟩,⟨some 5,.box 141 (.tmp 2),0,.no⟩,⟨some 6,.alloc 36,0,.no⟩]) (.seq (.reg [⟨some 8,.fieldAddr 88 (.tmp 3) 2,0,.no⟩,⟨some 9,.load 3 (.tmp 8),3,.no⟩,⟨some 10,.move (.tmp 1),3,.no⟩,⟨some 11,.build 36 #[(0,.tmp 9),(1,.tmp 10)],36,.no⟩,⟨some 7,.alloc 36,0,.no⟩,⟨none,.store 36 (.tmp 7) (.tmp 11),0,.no⟩]) B))
   (.agg ⟨Qaz k⟩::.int .i64 n::.agg ⟨fsC f a1 a2 a3⟩::List.replicate (Tryz.f79.ntmps-3) undef) [] m Q:=by
 have hn:List.replicate (Tryz.f79.ntmps-3) undef=List.replicate 162 undef:=rfl
 rw [hn]
 simp only [List.replicate]
 obtain⟨r0,hr0⟩:∃ r0,r0=m.next:=⟨_,rfl⟩
 rw [← hr0] at h
 refine Qbg (fun l ds m1=>ds=[]∧Old m.next m m1∧m1.next=r0+3∧vw m1 r0=some ⟨true,88,false,Qaz k⟩∧vw m1 (r0+1)=some ⟨true,141,false,fsC f a1 a2 a3⟩∧vw m1 (r0+2)=some ⟨true,36,false,Qaa stp0 (.slice none 0 0) (.slice none 0 0)⟩∧∃ x0 x2 x4,Sl [x0,.int .i64 n,x2,.pointer (some ⟨r0,0,none⟩),x4,.pointer (some ⟨r0+1,0,none⟩),.pointer (some ⟨r0+2,0,none⟩)] 158 l) ?_ ?_
 rotate_left
 ·refine Qai fun Q' hQ=>?_
  simp only [Qaz,fsC]
  simp
  subst hQ
  refine⟨rfl,(((Old.refl _ _).new (Knr _) _).new (by rw [Qae];omega) _).new (by rw [Qae,Qae];omega) _,by rw [Qae,Qae,Qae,hr0],?_,?_,?_,_,_,_,Sl.mk (by rw [hr0];rfl) rfl⟩
  ·simp [hr0,show ¬ m.next=m.next+1+1 by omega,show ¬ m.next=m.next+1 by omega];rfl
  ·simp [hr0,show ¬ m.next+1=m.next+1+1 by omega];rfl
  ·simp [hr0];rfl
 rintro l ds m1 ⟨rfl,hO1,hn1,h0,h1,h2,x0,x2,x4,ts,hts,rfl⟩
 simp only [Qaz] at h0
 obtain⟨y7,ts7,rfl,hts7⟩:=Qbj (n:=157) hts
 refine xsr fun Q' hQ=>?_
 simp [hts7,h0,hn1]
 obtain⟨m2,hm2,hn2,hv2,hg2⟩:=Qel m1 36 17 [.int .i64 0,.int .i64 0,.int .i64 0,.int .u64 0,.int .u64 0,Value.slice none 0 0,.int .u64 0,.int .i64 0,.int .i64 0,.int .i64 0,.int .i64 0,.int .i64 0,.int .u32 0,.int .u64 0,Value.slice none 0 0,.int .i64 0,.int .u64 0] (Qaa { stp0 with kind:=k,node:=n } (.slice none 0 0) (.slice none 0 0)) rfl rfl rfl
 simp only [Qaa,stp0,hn1] at hm2 hv2
 rw [← hm2]
 subst hQ
 have hk:∀ x,x<r0+3→vw m2 x=vw m1 x:=fun x hx=>by unfold vw;rw [hg2 x (by omega)]
 refine h _ _ m2 x0 x2 x4 ?_ ⟨⟨by have:=hO1.1;omega,fun x hx=>by rw [hg2 x (by omega)];exact hO1.2 x hx⟩,hr0,by rw [hk _ (by omega)];exact h0,by rw [hk _ (by omega)];exact h1,by rw [hk _ (by omega)];exact h2,hv2⟩ rfl
 simp [hts7]
theorem Qd0 {m m3:Mem} {k:Nat} {n:Int} {f:Fs} {a1 a3:Option Addr} {l ts:List Value} {x0 x1 x2 x3 x4 x5:Value} (hO:Old m.next m m3) (hv2:vw m3 (m.next+2)=some ⟨true,36,false,Qaa stp0 (.slice none 0 0) (.slice none 0 0)⟩) {s:Stp} {ad ac:Option Addr} {nd nc:Nat}
  (hv3:vw m3 (m.next+3)=some ⟨true,36,false,Qaa s (.slice ad nd nd) (.slice ac nc nc)⟩) (hs:s=Qa0 k n f) (hd':.slice ad nd nd=dOf k f a3) (hc':.slice ac nc nc=cOf k f a1) (hl:l=[x0,x1,x2,x3,x4,x5,.pointer (some ⟨m.next+2,0,none⟩),.pointer (some ⟨m.next+3,0,none⟩)]++ts) (hts:ts.length=157) :
  wpX tb ⟨79,.normal,none⟩ (.seq (.reg [⟨some 164,.load 36 (.tmp 7),36,.no⟩,⟨none,.store 36 (.tmp 6) (.tmp 164),0,.no⟩]) .ret) l [] m3 (endX tb Tryz.f79.results.toList (retR (Qdl k n f a1 a3 m))):=by
 subst hl
 have hst:stOk ⟨true,36,false,Qaa stp0 (.slice none 0 0) (.slice none 0 0)⟩ 0 (Qaa s (.slice ad nd nd) (.slice ac nc nc))=true:=by simp [stOk,Qaa,oneC]
 have hall:(Qaa s (.slice ad nd nd) (.slice ac nc nc)).all oneC=true:=by simp [Qaa,oneC]
 have hln:(Qaa s (.slice ad nd nd) (.slice ac nc nc)).length=17:=rfl
 have hz:(Qaa stp0 (.slice none 0 0) (.slice none 0 0)).length=17:=rfl
 have htk:Qb3 (Qaa s (.slice ad nd nd) (.slice ac nc nc)) 0 17=Qaa s (.slice ad nd nd) (.slice ac nc nc):=rfl
 refine xsr fun Q' hQ=>?_
 simp [hts,hv2,hv3,hall,hln,hz,htk]
 subst hQ
 refine xret ⟨rfl,.agg ⟨Qaa s (.slice ad nd nd) (.slice ac nc nc)⟩,?_,?_,?_⟩
 ·show resX tb [.cell 6 36] _ _=_
  unfold resX
  rw [Qf0 (i:=6) (b:=m.next+2) (v:=.agg ⟨Qaa s (.slice ad nd nd) (.slice ac nc nc)⟩) rfl ((Qic Ty.ti36 Ty.g36 (Qax hv2 hst) (by rw [Ty.s36,Qfs];rfl)).trans (by rfl)) Ql5]
 ·rw [hs,hd',hc']
 ·exact hO.st (by omega) _ _
end Go.Proofs.YtgmkbdmgifdfeaaGreatDoor

