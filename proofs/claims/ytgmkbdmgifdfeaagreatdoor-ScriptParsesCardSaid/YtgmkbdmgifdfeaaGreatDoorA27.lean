/- A part of a proof: ScriptParses. -/
import Derived.Test.YtgmkbdmgifdfeaaGreatDoorA26
set_option linter.unusedVariables false
set_option linter.unusedSimpArgs false
set_option maxRecDepth 8000
namespace Go.Proofs.YtgmkbdmgifdfeaaGreatDoor
open Go Go.Ev
def iForm:List UInt8:=[105,105,110,105,110,110,105,105,105]
def i0 (f:Fs) (k:Nat):Int:=f.ints.getD k 0
def n0 (f:Fs) (k:Nat):Int:=f.nats.getD k 0
def headF (f:Fs):Stu:=⟨i0 f 2,n0 f 1,n0 f 2,i0 f 3,i0 f 4,i0 f 5,i0 f 0,i0 f 1,n0 f 0⟩
def stepF (k:Nat) (n:Int) (f:Fs):Stp :=
 let s:Stp := { stp0 with kind:=k,node:=n }
 match k with
 |1 => { s with ticks:=n0 f 0 }
 |2 => { s with stream:=i0 f 0,qc:=i0 f 1,qb:=i0 f 2 }
 |3 => { s with stream:=i0 f 0 }
 |4 => { s with stream:=i0 f 0 }
 |5 => { s with stream:=i0 f 0 }
 |6 => { s with stream:=i0 f 0,time:=n0 f 0,life:=n0 f 1,data:=f.text }
 |7 => { s with stream:=i0 f 0,seq:=n0 f 0 }
 |9 => { s with way:=f.way,place:=i0 f 0 }
 |10 => { s with way:=f.way,place:=i0 f 0 }
 |11 => { s with way:=f.way,place:=i0 f 0 }
 |12 => { s with way:=f.way,place:=i0 f 0,pos:=i0 f 1,mask:=n0 f 0 }
 |13 => { s with pos:=i0 f 0 }
 |14 => { s with choices:=f.ints }
 |16 => { s with stream:=i0 f 0 }
 |17 => { s with cursor:=i0 f 0 }
 |18 => { s with cursor:=i0 f 0,time:=n0 f 0 }
 |19 => { s with cursor:=i0 f 0 }
 |20 => { s with cursor:=i0 f 0 }
 |21 => { s with cursor:=i0 f 0 }
 |22 => { s with stream:=i0 f 0,time:=n0 f 0,to:=n0 f 1 }
 |_=>s
def iN:Nat→Nat
 |2=>3|3=>1|4=>1|5=>1|6=>1|7=>1|9=>1|10=>1|11=>1|12=>2|13=>1|16=>1|17=>1|18=>1|19=>1|20=>1|21=>1|22=>1|_=>0
def nN:Nat→Nat
 |1=>1|6=>2|7=>1|12=>1|18=>1|22=>2|_=>0
theorem mask_range {w:List UInt8} {v:Int} (h:maskOf w=some v):0≤v∧v≤4294967295:=by
 unfold maskOf numOf at h
 split at h
 ·rename_i hh
  have e:((decVal w:Nat):Int)=v:=Option.some.inj h
  have:=hh.2.2.2
  omega
 ·cases h
def Shape (k:Nat) (f:Fs):Prop:=k=14∨(f.ints.length=iN k∧f.nats.length=nN k∧(k=12→0≤n0 f 0∧n0 f 0≤4294967295))
theorem rd_i (w:List UInt8) (f:Fs):rdOne 105 w f=(intOf w).map fun v => { f with ints:=f.ints++[v] }:=rfl
theorem rd_n (w:List UInt8) (f:Fs):rdOne 110 w f=(longOf w).map fun v => { f with nats:=f.nats++[v] }:=rfl
theorem rd_m (w:List UInt8) (f:Fs):rdOne 109 w f=(maskOf w).map fun v => { f with nats:=f.nats++[v] }:=rfl
theorem rd_w (w:List UInt8) (f:Fs):rdOne 119 w f=(wayOf w).map fun v => { f with way:=v }:=rfl
theorem rd_t (w:List UInt8) (f:Fs):rdOne 116 w f=(textOf w).map fun v => { f with text:=v }:=rfl
theorem readF_go {form:List UInt8} (h:form≠[99]) (ws:List (List UInt8)):readF form ws=readGo form ws fs0:=by unfold readF;rw [if_neg h]
def Law (k:Nat) (n:Int) (ws:List (List UInt8)):Prop :=
 (∀ f,readF (formOf k) ws=some f→readFds (fieldsOf k) { stp0 with kind:=k,node:=n } ws=some (stepF k n f,[])∧Shape k f) ∧
 (readF (formOf k) ws=none→∀ s,readFds (fieldsOf k) { stp0 with kind:=k,node:=n } ws≠some (s,[]))
theorem law1 (n:Int) (ws:List (List UInt8)):Law 1 n ws:=by
 rcases ws with _|⟨a0,_|⟨a1,r⟩⟩
 ·(constructor<;>simp [formOf,readF,readGo,fieldsOf,readFds,Fd.read,stepF,Shape,iN,nN,rd_i,rd_n,rd_m,rd_w,rd_t,fs0,stp0,i0,n0])
 ·cases h0:longOf a0<;>(constructor<;>simp [formOf,readF,readGo,fieldsOf,readFds,Fd.read,stepF,Shape,iN,nN,rd_i,rd_n,rd_m,rd_w,rd_t,fs0,stp0,i0,n0,h0])
 ·cases h0:longOf a0<;>(constructor<;>simp [formOf,readF,readGo,fieldsOf,readFds,Fd.read,stepF,Shape,iN,nN,rd_i,rd_n,rd_m,rd_w,rd_t,fs0,stp0,i0,n0,h0])
theorem law2 (n:Int) (ws:List (List UInt8)):Law 2 n ws:=by
 rcases ws with _|⟨a0,_|⟨a1,_|⟨a2,_|⟨a3,r⟩⟩⟩⟩
 ·(constructor<;>simp [formOf,readF,readGo,fieldsOf,readFds,Fd.read,stepF,Shape,iN,nN,rd_i,rd_n,rd_m,rd_w,rd_t,fs0,stp0,i0,n0])
 ·cases h0:intOf a0<;>(constructor<;>simp [formOf,readF,readGo,fieldsOf,readFds,Fd.read,stepF,Shape,iN,nN,rd_i,rd_n,rd_m,rd_w,rd_t,fs0,stp0,i0,n0,h0])
 ·cases h0:intOf a0<;>cases h1:intOf a1<;>(constructor<;>simp [formOf,readF,readGo,fieldsOf,readFds,Fd.read,stepF,Shape,iN,nN,rd_i,rd_n,rd_m,rd_w,rd_t,fs0,stp0,i0,n0,h0,h1])
 ·cases h0:intOf a0<;>cases h1:intOf a1<;>cases h2:intOf a2<;>(constructor<;>simp [formOf,readF,readGo,fieldsOf,readFds,Fd.read,stepF,Shape,iN,nN,rd_i,rd_n,rd_m,rd_w,rd_t,fs0,stp0,i0,n0,h0,h1,h2])
 ·cases h0:intOf a0<;>cases h1:intOf a1<;>cases h2:intOf a2<;>(constructor<;>simp [formOf,readF,readGo,fieldsOf,readFds,Fd.read,stepF,Shape,iN,nN,rd_i,rd_n,rd_m,rd_w,rd_t,fs0,stp0,i0,n0,h0,h1,h2])
theorem law3 (n:Int) (ws:List (List UInt8)):Law 3 n ws:=by
 rcases ws with _|⟨a0,_|⟨a1,r⟩⟩
 ·(constructor<;>simp [formOf,readF,readGo,fieldsOf,readFds,Fd.read,stepF,Shape,iN,nN,rd_i,rd_n,rd_m,rd_w,rd_t,fs0,stp0,i0,n0])
 ·cases h0:intOf a0<;>(constructor<;>simp [formOf,readF,readGo,fieldsOf,readFds,Fd.read,stepF,Shape,iN,nN,rd_i,rd_n,rd_m,rd_w,rd_t,fs0,stp0,i0,n0,h0])
 ·cases h0:intOf a0<;>(constructor<;>simp [formOf,readF,readGo,fieldsOf,readFds,Fd.read,stepF,Shape,iN,nN,rd_i,rd_n,rd_m,rd_w,rd_t,fs0,stp0,i0,n0,h0])
theorem law4 (n:Int) (ws:List (List UInt8)):Law 4 n ws:=by
 rcases ws with _|⟨a0,_|⟨a1,r⟩⟩
 ·(constructor<;>simp [formOf,readF,readGo,fieldsOf,readFds,Fd.read,stepF,Shape,iN,nN,rd_i,rd_n,rd_m,rd_w,rd_t,fs0,stp0,i0,n0])
 ·cases h0:intOf a0<;>(constructor<;>simp [formOf,readF,readGo,fieldsOf,readFds,Fd.read,stepF,Shape,iN,nN,rd_i,rd_n,rd_m,rd_w,rd_t,fs0,stp0,i0,n0,h0])
 ·cases h0:intOf a0<;>(constructor<;>simp [formOf,readF,readGo,fieldsOf,readFds,Fd.read,stepF,Shape,iN,nN,rd_i,rd_n,rd_m,rd_w,rd_t,fs0,stp0,i0,n0,h0])
theorem law5 (n:Int) (ws:List (List UInt8)):Law 5 n ws:=by
 rcases ws with _|⟨a0,_|⟨a1,r⟩⟩
 ·(constructor<;>simp [formOf,readF,readGo,fieldsOf,readFds,Fd.read,stepF,Shape,iN,nN,rd_i,rd_n,rd_m,rd_w,rd_t,fs0,stp0,i0,n0])
 ·cases h0:intOf a0<;>(constructor<;>simp [formOf,readF,readGo,fieldsOf,readFds,Fd.read,stepF,Shape,iN,nN,rd_i,rd_n,rd_m,rd_w,rd_t,fs0,stp0,i0,n0,h0])
 ·cases h0:intOf a0<;>(constructor<;>simp [formOf,readF,readGo,fieldsOf,readFds,Fd.read,stepF,Shape,iN,nN,rd_i,rd_n,rd_m,rd_w,rd_t,fs0,stp0,i0,n0,h0])
theorem law6 (n:Int) (ws:List (List UInt8)):Law 6 n ws:=by
 rcases ws with _|⟨a0,_|⟨a1,_|⟨a2,_|⟨a3,_|⟨a4,r⟩⟩⟩⟩⟩
 ·(constructor<;>simp [formOf,readF,readGo,fieldsOf,readFds,Fd.read,stepF,Shape,iN,nN,rd_i,rd_n,rd_m,rd_w,rd_t,fs0,stp0,i0,n0])
 ·cases h0:intOf a0<;>(constructor<;>simp [formOf,readF,readGo,fieldsOf,readFds,Fd.read,stepF,Shape,iN,nN,rd_i,rd_n,rd_m,rd_w,rd_t,fs0,stp0,i0,n0,h0])
 ·cases h0:intOf a0<;>cases h1:longOf a1<;>(constructor<;>simp [formOf,readF,readGo,fieldsOf,readFds,Fd.read,stepF,Shape,iN,nN,rd_i,rd_n,rd_m,rd_w,rd_t,fs0,stp0,i0,n0,h0,h1])
 ·cases h0:intOf a0<;>cases h1:longOf a1<;>cases h2:longOf a2<;>(constructor<;>simp [formOf,readF,readGo,fieldsOf,readFds,Fd.read,stepF,Shape,iN,nN,rd_i,rd_n,rd_m,rd_w,rd_t,fs0,stp0,i0,n0,h0,h1,h2])
 ·cases h0:intOf a0<;>cases h1:longOf a1<;>cases h2:longOf a2<;>cases h3:textOf a3<;>(constructor<;>simp [formOf,readF,readGo,fieldsOf,readFds,Fd.read,stepF,Shape,iN,nN,rd_i,rd_n,rd_m,rd_w,rd_t,fs0,stp0,i0,n0,h0,h1,h2,h3])
 ·cases h0:intOf a0<;>cases h1:longOf a1<;>cases h2:longOf a2<;>cases h3:textOf a3<;>(constructor<;>simp [formOf,readF,readGo,fieldsOf,readFds,Fd.read,stepF,Shape,iN,nN,rd_i,rd_n,rd_m,rd_w,rd_t,fs0,stp0,i0,n0,h0,h1,h2,h3])
theorem law7 (n:Int) (ws:List (List UInt8)):Law 7 n ws:=by
 rcases ws with _|⟨a0,_|⟨a1,_|⟨a2,r⟩⟩⟩
 ·(constructor<;>simp [formOf,readF,readGo,fieldsOf,readFds,Fd.read,stepF,Shape,iN,nN,rd_i,rd_n,rd_m,rd_w,rd_t,fs0,stp0,i0,n0])
 ·cases h0:intOf a0<;>(constructor<;>simp [formOf,readF,readGo,fieldsOf,readFds,Fd.read,stepF,Shape,iN,nN,rd_i,rd_n,rd_m,rd_w,rd_t,fs0,stp0,i0,n0,h0])
 ·cases h0:intOf a0<;>cases h1:longOf a1<;>(constructor<;>simp [formOf,readF,readGo,fieldsOf,readFds,Fd.read,stepF,Shape,iN,nN,rd_i,rd_n,rd_m,rd_w,rd_t,fs0,stp0,i0,n0,h0,h1])
 ·cases h0:intOf a0<;>cases h1:longOf a1<;>(constructor<;>simp [formOf,readF,readGo,fieldsOf,readFds,Fd.read,stepF,Shape,iN,nN,rd_i,rd_n,rd_m,rd_w,rd_t,fs0,stp0,i0,n0,h0,h1])
theorem law8 (n:Int) (ws:List (List UInt8)):Law 8 n ws:=by
 rcases ws with _|⟨a0,r⟩
 ·(constructor<;>simp [formOf,readF,readGo,fieldsOf,readFds,Fd.read,stepF,Shape,iN,nN,rd_i,rd_n,rd_m,rd_w,rd_t,fs0,stp0,i0,n0])
 ·(constructor<;>simp [formOf,readF,readGo,fieldsOf,readFds,Fd.read,stepF,Shape,iN,nN,rd_i,rd_n,rd_m,rd_w,rd_t,fs0,stp0,i0,n0])
theorem law9 (n:Int) (ws:List (List UInt8)):Law 9 n ws:=by
 rcases ws with _|⟨a0,_|⟨a1,_|⟨a2,r⟩⟩⟩
 ·(constructor<;>simp [formOf,readF,readGo,fieldsOf,readFds,Fd.read,stepF,Shape,iN,nN,rd_i,rd_n,rd_m,rd_w,rd_t,fs0,stp0,i0,n0])
 ·cases h0:wayOf a0<;>(constructor<;>simp [formOf,readF,readGo,fieldsOf,readFds,Fd.read,stepF,Shape,iN,nN,rd_i,rd_n,rd_m,rd_w,rd_t,fs0,stp0,i0,n0,h0])
 ·cases h0:wayOf a0<;>cases h1:intOf a1<;>(constructor<;>simp [formOf,readF,readGo,fieldsOf,readFds,Fd.read,stepF,Shape,iN,nN,rd_i,rd_n,rd_m,rd_w,rd_t,fs0,stp0,i0,n0,h0,h1])
 ·cases h0:wayOf a0<;>cases h1:intOf a1<;>(constructor<;>simp [formOf,readF,readGo,fieldsOf,readFds,Fd.read,stepF,Shape,iN,nN,rd_i,rd_n,rd_m,rd_w,rd_t,fs0,stp0,i0,n0,h0,h1])
theorem law10 (n:Int) (ws:List (List UInt8)):Law 10 n ws:=by
 rcases ws with _|⟨a0,_|⟨a1,_|⟨a2,r⟩⟩⟩
 ·(constructor<;>simp [formOf,readF,readGo,fieldsOf,readFds,Fd.read,stepF,Shape,iN,nN,rd_i,rd_n,rd_m,rd_w,rd_t,fs0,stp0,i0,n0])
 ·cases h0:wayOf a0<;>(constructor<;>simp [formOf,readF,readGo,fieldsOf,readFds,Fd.read,stepF,Shape,iN,nN,rd_i,rd_n,rd_m,rd_w,rd_t,fs0,stp0,i0,n0,h0])
 ·cases h0:wayOf a0<;>cases h1:intOf a1<;>(constructor<;>simp [formOf,readF,readGo,fieldsOf,readFds,Fd.read,stepF,Shape,iN,nN,rd_i,rd_n,rd_m,rd_w,rd_t,fs0,stp0,i0,n0,h0,h1])
 ·cases h0:wayOf a0<;>cases h1:intOf a1<;>(constructor<;>simp [formOf,readF,readGo,fieldsOf,readFds,Fd.read,stepF,Shape,iN,nN,rd_i,rd_n,rd_m,rd_w,rd_t,fs0,stp0,i0,n0,h0,h1])
theorem law11 (n:Int) (ws:List (List UInt8)):Law 11 n ws:=by
 rcases ws with _|⟨a0,_|⟨a1,_|⟨a2,r⟩⟩⟩
 ·(constructor<;>simp [formOf,readF,readGo,fieldsOf,readFds,Fd.read,stepF,Shape,iN,nN,rd_i,rd_n,rd_m,rd_w,rd_t,fs0,stp0,i0,n0])
 ·cases h0:wayOf a0<;>(constructor<;>simp [formOf,readF,readGo,fieldsOf,readFds,Fd.read,stepF,Shape,iN,nN,rd_i,rd_n,rd_m,rd_w,rd_t,fs0,stp0,i0,n0,h0])
 ·cases h0:wayOf a0<;>cases h1:intOf a1<;>(constructor<;>simp [formOf,readF,readGo,fieldsOf,readFds,Fd.read,stepF,Shape,iN,nN,rd_i,rd_n,rd_m,rd_w,rd_t,fs0,stp0,i0,n0,h0,h1])
 ·cases h0:wayOf a0<;>cases h1:intOf a1<;>(constructor<;>simp [formOf,readF,readGo,fieldsOf,readFds,Fd.read,stepF,Shape,iN,nN,rd_i,rd_n,rd_m,rd_w,rd_t,fs0,stp0,i0,n0,h0,h1])
theorem law12 (n:Int) (ws:List (List UInt8)):Law 12 n ws:=by
 rcases ws with _|⟨a0,_|⟨a1,_|⟨a2,_|⟨a3,_|⟨a4,r⟩⟩⟩⟩⟩
 ·(constructor<;>simp [formOf,readF,readGo,fieldsOf,readFds,Fd.read,stepF,Shape,iN,nN,rd_i,rd_n,rd_m,rd_w,rd_t,fs0,stp0,i0,n0])
 ·cases h0:wayOf a0<;>(constructor<;>simp [formOf,readF,readGo,fieldsOf,readFds,Fd.read,stepF,Shape,iN,nN,rd_i,rd_n,rd_m,rd_w,rd_t,fs0,stp0,i0,n0,h0])
 ·cases h0:wayOf a0<;>cases h1:intOf a1<;>(constructor<;>simp [formOf,readF,readGo,fieldsOf,readFds,Fd.read,stepF,Shape,iN,nN,rd_i,rd_n,rd_m,rd_w,rd_t,fs0,stp0,i0,n0,h0,h1])
 ·cases h0:wayOf a0<;>cases h1:intOf a1<;>cases h2:intOf a2<;>(constructor<;>simp [formOf,readF,readGo,fieldsOf,readFds,Fd.read,stepF,Shape,iN,nN,rd_i,rd_n,rd_m,rd_w,rd_t,fs0,stp0,i0,n0,h0,h1,h2])
 ·cases h0:wayOf a0<;>cases h1:intOf a1<;>cases h2:intOf a2<;>cases h3:maskOf a3<;>(constructor<;>simp [formOf,readF,readGo,fieldsOf,readFds,Fd.read,stepF,Shape,iN,nN,rd_i,rd_n,rd_m,rd_w,rd_t,fs0,stp0,i0,n0,h0,h1,h2,h3])<;>exact mask_range h3
 ·cases h0:wayOf a0<;>cases h1:intOf a1<;>cases h2:intOf a2<;>cases h3:maskOf a3<;>(constructor<;>simp [formOf,readF,readGo,fieldsOf,readFds,Fd.read,stepF,Shape,iN,nN,rd_i,rd_n,rd_m,rd_w,rd_t,fs0,stp0,i0,n0,h0,h1,h2,h3])
theorem law13 (n:Int) (ws:List (List UInt8)):Law 13 n ws:=by
 rcases ws with _|⟨a0,_|⟨a1,r⟩⟩
 ·(constructor<;>simp [formOf,readF,readGo,fieldsOf,readFds,Fd.read,stepF,Shape,iN,nN,rd_i,rd_n,rd_m,rd_w,rd_t,fs0,stp0,i0,n0])
 ·cases h0:intOf a0<;>(constructor<;>simp [formOf,readF,readGo,fieldsOf,readFds,Fd.read,stepF,Shape,iN,nN,rd_i,rd_n,rd_m,rd_w,rd_t,fs0,stp0,i0,n0,h0])
 ·cases h0:intOf a0<;>(constructor<;>simp [formOf,readF,readGo,fieldsOf,readFds,Fd.read,stepF,Shape,iN,nN,rd_i,rd_n,rd_m,rd_w,rd_t,fs0,stp0,i0,n0,h0])
theorem law15 (n:Int) (ws:List (List UInt8)):Law 15 n ws:=by
 rcases ws with _|⟨a0,r⟩
 ·(constructor<;>simp [formOf,readF,readGo,fieldsOf,readFds,Fd.read,stepF,Shape,iN,nN,rd_i,rd_n,rd_m,rd_w,rd_t,fs0,stp0,i0,n0])
 ·(constructor<;>simp [formOf,readF,readGo,fieldsOf,readFds,Fd.read,stepF,Shape,iN,nN,rd_i,rd_n,rd_m,rd_w,rd_t,fs0,stp0,i0,n0])
theorem law16 (n:Int) (ws:List (List UInt8)):Law 16 n ws:=by
 rcases ws with _|⟨a0,_|⟨a1,r⟩⟩
 ·(constructor<;>simp [formOf,readF,readGo,fieldsOf,readFds,Fd.read,stepF,Shape,iN,nN,rd_i,rd_n,rd_m,rd_w,rd_t,fs0,stp0,i0,n0])
 ·cases h0:intOf a0<;>(constructor<;>simp [formOf,readF,readGo,fieldsOf,readFds,Fd.read,stepF,Shape,iN,nN,rd_i,rd_n,rd_m,rd_w,rd_t,fs0,stp0,i0,n0,h0])
 ·cases h0:intOf a0<;>(constructor<;>simp [formOf,readF,readGo,fieldsOf,readFds,Fd.read,stepF,Shape,iN,nN,rd_i,rd_n,rd_m,rd_w,rd_t,fs0,stp0,i0,n0,h0])
theorem law17 (n:Int) (ws:List (List UInt8)):Law 17 n ws:=by
 rcases ws with _|⟨a0,_|⟨a1,r⟩⟩
 ·(constructor<;>simp [formOf,readF,readGo,fieldsOf,readFds,Fd.read,stepF,Shape,iN,nN,rd_i,rd_n,rd_m,rd_w,rd_t,fs0,stp0,i0,n0])
 ·cases h0:intOf a0<;>(constructor<;>simp [formOf,readF,readGo,fieldsOf,readFds,Fd.read,stepF,Shape,iN,nN,rd_i,rd_n,rd_m,rd_w,rd_t,fs0,stp0,i0,n0,h0])
 ·cases h0:intOf a0<;>(constructor<;>simp [formOf,readF,readGo,fieldsOf,readFds,Fd.read,stepF,Shape,iN,nN,rd_i,rd_n,rd_m,rd_w,rd_t,fs0,stp0,i0,n0,h0])
theorem law18 (n:Int) (ws:List (List UInt8)):Law 18 n ws:=by
 rcases ws with _|⟨a0,_|⟨a1,_|⟨a2,r⟩⟩⟩
 ·(constructor<;>simp [formOf,readF,readGo,fieldsOf,readFds,Fd.read,stepF,Shape,iN,nN,rd_i,rd_n,rd_m,rd_w,rd_t,fs0,stp0,i0,n0])
 ·cases h0:intOf a0<;>(constructor<;>simp [formOf,readF,readGo,fieldsOf,readFds,Fd.read,stepF,Shape,iN,nN,rd_i,rd_n,rd_m,rd_w,rd_t,fs0,stp0,i0,n0,h0])
 ·cases h0:intOf a0<;>cases h1:longOf a1<;>(constructor<;>simp [formOf,readF,readGo,fieldsOf,readFds,Fd.read,stepF,Shape,iN,nN,rd_i,rd_n,rd_m,rd_w,rd_t,fs0,stp0,i0,n0,h0,h1])
 ·cases h0:intOf a0<;>cases h1:longOf a1<;>(constructor<;>simp [formOf,readF,readGo,fieldsOf,readFds,Fd.read,stepF,Shape,iN,nN,rd_i,rd_n,rd_m,rd_w,rd_t,fs0,stp0,i0,n0,h0,h1])
theorem law19 (n:Int) (ws:List (List UInt8)):Law 19 n ws:=by
 rcases ws with _|⟨a0,_|⟨a1,r⟩⟩
 ·(constructor<;>simp [formOf,readF,readGo,fieldsOf,readFds,Fd.read,stepF,Shape,iN,nN,rd_i,rd_n,rd_m,rd_w,rd_t,fs0,stp0,i0,n0])
 ·cases h0:intOf a0<;>(constructor<;>simp [formOf,readF,readGo,fieldsOf,readFds,Fd.read,stepF,Shape,iN,nN,rd_i,rd_n,rd_m,rd_w,rd_t,fs0,stp0,i0,n0,h0])
 ·cases h0:intOf a0<;>(constructor<;>simp [formOf,readF,readGo,fieldsOf,readFds,Fd.read,stepF,Shape,iN,nN,rd_i,rd_n,rd_m,rd_w,rd_t,fs0,stp0,i0,n0,h0])
theorem law20 (n:Int) (ws:List (List UInt8)):Law 20 n ws:=by
 rcases ws with _|⟨a0,_|⟨a1,r⟩⟩
 ·(constructor<;>simp [formOf,readF,readGo,fieldsOf,readFds,Fd.read,stepF,Shape,iN,nN,rd_i,rd_n,rd_m,rd_w,rd_t,fs0,stp0,i0,n0])
 ·cases h0:intOf a0<;>(constructor<;>simp [formOf,readF,readGo,fieldsOf,readFds,Fd.read,stepF,Shape,iN,nN,rd_i,rd_n,rd_m,rd_w,rd_t,fs0,stp0,i0,n0,h0])
 ·cases h0:intOf a0<;>(constructor<;>simp [formOf,readF,readGo,fieldsOf,readFds,Fd.read,stepF,Shape,iN,nN,rd_i,rd_n,rd_m,rd_w,rd_t,fs0,stp0,i0,n0,h0])
theorem law21 (n:Int) (ws:List (List UInt8)):Law 21 n ws:=by
 rcases ws with _|⟨a0,_|⟨a1,r⟩⟩
 ·(constructor<;>simp [formOf,readF,readGo,fieldsOf,readFds,Fd.read,stepF,Shape,iN,nN,rd_i,rd_n,rd_m,rd_w,rd_t,fs0,stp0,i0,n0])
 ·cases h0:intOf a0<;>(constructor<;>simp [formOf,readF,readGo,fieldsOf,readFds,Fd.read,stepF,Shape,iN,nN,rd_i,rd_n,rd_m,rd_w,rd_t,fs0,stp0,i0,n0,h0])
 ·cases h0:intOf a0<;>(constructor<;>simp [formOf,readF,readGo,fieldsOf,readFds,Fd.read,stepF,Shape,iN,nN,rd_i,rd_n,rd_m,rd_w,rd_t,fs0,stp0,i0,n0,h0])
theorem law22 (n:Int) (ws:List (List UInt8)):Law 22 n ws:=by
 rcases ws with _|⟨a0,_|⟨a1,_|⟨a2,_|⟨a3,r⟩⟩⟩⟩
 ·(constructor<;>simp [formOf,readF,readGo,fieldsOf,readFds,Fd.read,stepF,Shape,iN,nN,rd_i,rd_n,rd_m,rd_w,rd_t,fs0,stp0,i0,n0])
 ·cases h0:intOf a0<;>(constructor<;>simp [formOf,readF,readGo,fieldsOf,readFds,Fd.read,stepF,Shape,iN,nN,rd_i,rd_n,rd_m,rd_w,rd_t,fs0,stp0,i0,n0,h0])
 ·cases h0:intOf a0<;>cases h1:longOf a1<;>(constructor<;>simp [formOf,readF,readGo,fieldsOf,readFds,Fd.read,stepF,Shape,iN,nN,rd_i,rd_n,rd_m,rd_w,rd_t,fs0,stp0,i0,n0,h0,h1])
 ·cases h0:intOf a0<;>cases h1:longOf a1<;>cases h2:longOf a2<;>(constructor<;>simp [formOf,readF,readGo,fieldsOf,readFds,Fd.read,stepF,Shape,iN,nN,rd_i,rd_n,rd_m,rd_w,rd_t,fs0,stp0,i0,n0,h0,h1,h2])
 ·cases h0:intOf a0<;>cases h1:longOf a1<;>cases h2:longOf a2<;>(constructor<;>simp [formOf,readF,readGo,fieldsOf,readFds,Fd.read,stepF,Shape,iN,nN,rd_i,rd_n,rd_m,rd_w,rd_t,fs0,stp0,i0,n0,h0,h1,h2])
theorem law14 (n:Int) (ws:List (List UInt8)):Law 14 n ws:=by
 have e:∀ s:Stp,readFds (fieldsOf 14) s ws=(allInts ws).map fun l=>({ s with choices:=s.choices++l },[]):=fun s=>by cases ws<;>simp only [fieldsOf,readFds,Fd.read]<;>cases allInts _<;>rfl
 unfold Law;rw [e];cases h:allInts ws<;>(constructor<;>simp [formOf,readF,stepF,Shape,fs0,stp0,h])
theorem read_law:∀ (k:Nat) (n:Int) (ws:List (List UInt8)),1≤k→k≤22→Law k n ws
 |1,n,ws,_,_=>law1 n ws
 |2,n,ws,_,_=>law2 n ws
 |3,n,ws,_,_=>law3 n ws
 |4,n,ws,_,_=>law4 n ws
 |5,n,ws,_,_=>law5 n ws
 |6,n,ws,_,_=>law6 n ws
 |7,n,ws,_,_=>law7 n ws
 |8,n,ws,_,_=>law8 n ws
 |9,n,ws,_,_=>law9 n ws
 |10,n,ws,_,_=>law10 n ws
 |11,n,ws,_,_=>law11 n ws
 |12,n,ws,_,_=>law12 n ws
 |13,n,ws,_,_=>law13 n ws
 |14,n,ws,_,_=>law14 n ws
 |15,n,ws,_,_=>law15 n ws
 |16,n,ws,_,_=>law16 n ws
 |17,n,ws,_,_=>law17 n ws
 |18,n,ws,_,_=>law18 n ws
 |19,n,ws,_,_=>law19 n ws
 |20,n,ws,_,_=>law20 n ws
 |21,n,ws,_,_=>law21 n ws
 |22,n,ws,_,_=>law22 n ws
 |0,_,_,h,_=>absurd h (by omega)
 |k+23,_,_,_,h=>absurd h (by omega)
def HeadLaw (ws:List (List UInt8)):Prop:=(∀ f,readF iForm ws=some f→headOf ws=some (headF f)∧f.ints.length=6∧f.nats.length=3)∧(readF iForm ws=none→headOf ws=none)
theorem head_len {ws:List (List UInt8)} (h:iForm.length≠ws.length) (h2:headOf ws=none):HeadLaw ws:=by
 have e:readF iForm ws=none:=by rw [readF_go (by decide)];exact readGo_len _ _ _ h
 exact⟨fun f hf=>by rw [e] at hf; (cases hf),fun _=>h2⟩
theorem head_law (ws:List (List UInt8)):HeadLaw ws:=by
 rcases ws with _|⟨a0,_|⟨a1,_|⟨a2,_|⟨a3,_|⟨a4,_|⟨a5,_|⟨a6,_|⟨a7,_|⟨a8,_|⟨a9,r⟩⟩⟩⟩⟩⟩⟩⟩⟩⟩
 ·exact head_len (by simp [iForm]) rfl
 ·exact head_len (by simp [iForm]) rfl
 ·exact head_len (by simp [iForm]) rfl
 ·exact head_len (by simp [iForm]) rfl
 ·exact head_len (by simp [iForm]) rfl
 ·exact head_len (by simp [iForm]) rfl
 ·exact head_len (by simp [iForm]) rfl
 ·exact head_len (by simp [iForm]) rfl
 ·exact head_len (by simp [iForm]) rfl
 ·unfold HeadLaw
  cases h0:intOf a0 with
  |none=>(constructor<;>simp [readF,iForm,readGo,headOf,rd_i,rd_n,fs0,headF,i0,n0,h0])
  |some v0 =>
   cases h1:intOf a1 with
   |none=>(constructor<;>simp [readF,iForm,readGo,headOf,rd_i,rd_n,fs0,headF,i0,n0,h0,h1])
   |some v1 =>
    cases h2:longOf a2 with
    |none=>(constructor<;>simp [readF,iForm,readGo,headOf,rd_i,rd_n,fs0,headF,i0,n0,h0,h1,h2])
    |some v2 =>
     cases h3:intOf a3 with
     |none=>(constructor<;>simp [readF,iForm,readGo,headOf,rd_i,rd_n,fs0,headF,i0,n0,h0,h1,h2,h3])
     |some v3 =>
      cases h4:longOf a4 with
      |none=>(constructor<;>simp [readF,iForm,readGo,headOf,rd_i,rd_n,fs0,headF,i0,n0,h0,h1,h2,h3,h4])
      |some v4 =>
       cases h5:longOf a5 with
       |none=>(constructor<;>simp [readF,iForm,readGo,headOf,rd_i,rd_n,fs0,headF,i0,n0,h0,h1,h2,h3,h4,h5])
       |some v5 =>
        cases h6:intOf a6 with
        |none=>(constructor<;>simp [readF,iForm,readGo,headOf,rd_i,rd_n,fs0,headF,i0,n0,h0,h1,h2,h3,h4,h5,h6])
        |some v6 =>
         cases h7:intOf a7 with
         |none=>(constructor<;>simp [readF,iForm,readGo,headOf,rd_i,rd_n,fs0,headF,i0,n0,h0,h1,h2,h3,h4,h5,h6,h7])
         |some v7 =>
          cases h8:intOf a8 with
          |none=>(constructor<;>simp [readF,iForm,readGo,headOf,rd_i,rd_n,fs0,headF,i0,n0,h0,h1,h2,h3,h4,h5,h6,h7,h8])
          |some v8 =>
           (constructor<;>simp [readF,iForm,readGo,headOf,rd_i,rd_n,fs0,headF,i0,n0,h0,h1,h2,h3,h4,h5,h6,h7,h8])
 ·exact head_len (by simp [iForm]) rfl
end Go.Proofs.YtgmkbdmgifdfeaaGreatDoor

set_option maxRecDepth 8000
namespace Go.Proofs.YtgmkbdmgifdfeaaGreatDoor
open Go Go.Ev
theorem own_some {n0 n:Nat} {m:Mem} {v:Value} {e:TypeId} {cells:List Value} (h:Own n0 m v e n cells) (hn:n≠0):∃ b,v=.slice (some ⟨b,0,none⟩) n n∧n0≤b∧b<m.next∧vw m b=some ⟨true,e,true,cells⟩:=by
 rcases h with ⟨_,h,_⟩|h
 ·exact absurd h hn
 ·exact h
theorem len1 {l:List Int} (h:l.length=1):∃ a,l=[a]:=by
 match l,h with
 | [a],_=>exact⟨a,rfl⟩
theorem len2 {l:List Int} (h:l.length=2):∃ a b,l=[a,b]:=by
 match l,h with
 | [a,b],_=>exact⟨a,b,rfl⟩
theorem len3 {l:List Int} (h:l.length=3):∃ a b c,l=[a,b,c]:=by
 match l,h with
 | [a,b,c],_=>exact⟨a,b,c,rfl⟩
theorem len6 {l:List Int} (h:l.length=6):∃ a b c d e f,l=[a,b,c,d,e,f]:=by
 match l,h with
 | [a,b,c,d,e,f],_=>exact⟨a,b,c,d,e,f,rfl⟩
def HeadR (ws:List (List UInt8)) (m:Mem) (r:Value) (m':Mem):Prop :=
 ∃ x ok,r=.tuple ⟨[.agg ⟨stuCells' x⟩,.bool ok]⟩∧Old m.next m m'∧(ok=true→headOf ws=some x)∧(ok=false→headOf ws=none)
theorem rhead_ok {m:Mem} {v:Value} {ws:List (List UInt8)} (hW:WordsV m m.next v ws) (hl:ws.length≤2000000) (hlw:∀ w∈ws,w.length≤2000000) :
  CallsA tb 77 [v] m (retR (HeadR ws m)):=by
 refine callsS Tryz.func77 e77 rfl rfl ?_
 simp only [s77,List.replicate,List.length_cons,List.length_nil,List.cons_append,List.nil_append,Nat.reduceAdd,Nat.reduceSub]
 obtain⟨av,rfl⟩:=hW.shape
 obtain⟨r0,hr0⟩:∃ r0,r0=m.next:=⟨_,rfl⟩
 refine xseqN (fun l ds m'=>ds=[]∧Old m.next m m'∧m'.next=r0+1∧vw m' r0=some ⟨true,26,false,stuCells' stu0⟩∧Sl [.slice av ws.length ws.length,undef,.pointer (some ⟨r0,0,none⟩),.bool false] 50 l) ?_ ?_
 rotate_left
 ·refine xregQ fun Q' hQ=>?_
  simp
  subst hQ
  refine⟨rfl,(Old.refl _ _).new (Nat.le_refl _) _,by rw [next_newObjA,hr0],?_,Sl.mk (by rw [hr0];rfl) rfl⟩
  rw [vw_new,if_pos hr0];exact vwO_zero1 26 (stuCells' stu0)
 rintro l ds m1 ⟨rfl,hO1,hn1,hv1,ts,hts,rfl⟩
 have hW1:WordsV m1 m1.next (.slice av ws.length ws.length) ws:=by
  rcases hW with h|⟨b,all,h1,h2,h3⟩
  ·exact .inl h
  ·exact .inr ⟨b,all,by omega,by rw [hO1.vw h1];exact h2,h3⟩
 refine xsr fun Q' hQ=>?_
 simp [hts]
 refine xcall (ov_none (by decide)) (rread_ok (form:=iForm) hW1 hl hlw (by decide)) ?_ (fun ch m' h=>h.elim)
 rintro r m2 ⟨f,a1,a2,a3,ok,rfl,hO2,h1,h2⟩
 rw [hn1] at hO2 h1
 simp only [fsC] at h1 ⊢
 simp [hts]
 subst hQ
 obtain⟨m3,hm3,hn3,hv3,hg3⟩:=alloc_st' m2 141 4 [Value.slice none 0 0,Value.slice none 0 0,Value.int IntKind.i64 0,Value.slice none 0 0] [Value.slice a1 f.ints.length f.ints.length,Value.slice a2 f.nats.length f.nats.length,Value.int IntKind.i64 f.way,Value.slice a3 f.text.length f.text.length] rfl rfl rfl
 rw [← hm3]
 obtain⟨q,hq⟩:∃ q,q=m2.next:=⟨_,rfl⟩
 rw [← hq] at hn3 hv3 hg3 ⊢
 have hrq:r0+1≤q:=by have:=hO2.1;omega
 have hv3r:vw m3 r0=some ⟨true,26,false,stuCells' stu0⟩:=by
  have:vw m2 r0=some ⟨true,26,false,stuCells' stu0⟩:=by rw [hO2.vw (by omega)];exact hv1
  unfold vw at this ⊢;rw [hg3 _ (by omega)];exact this
 have hO3:Old m.next m m3:=⟨by omega,fun x hx=>by rw [hg3 x (by omega),hO2.2 x (by omega),hO1.2 x hx]⟩
 clear hm3
 have fin:∀ {x:Stu} {ok:Bool} {m4:Mem},Old m.next m m4→vw m4 r0=some ⟨true,26,false,stuCells' stu0⟩→(ok=true→headOf ws=some x)→(ok=false→headOf ws=none)→∀ {l:List Value},(∃ x0 x1 ts,l=x0::x1::.pointer (some ⟨r0,0,none⟩)::.bool ok::ts)→endX tb Tryz.f77.results.toList (retR (HeadR ws m)) (.jump .ret) l [] (stM m4 r0 0 (stuCells' x)):=by
  rintro x ok m4 hO hv h1 h2 l ⟨x0,x1,ts,rfl⟩
  have hs:stOk ⟨true,26,false,stuCells' stu0⟩ 0 (stuCells' x)=true:=rfl
  refine⟨rfl,_,resX_ct (i:=2) (j:=3) rfl (loadA_all Ty.ti26 Ty.g26 (vw_stM_eq hv hs) (by rw [Ty.s26];rfl)),x,ok,rfl,?_,h1,h2⟩
  exact⟨by rw [stM_next];exact hO.1,fun y hy=>by rw [stM_get (by omega)];exact hO.2 y hy⟩
 obtain⟨hl1,hl2⟩:=head_law ws
 simp only [stuCells',stu0] at hv3r fin
 cases ok with
 |false =>
  refine xseq (xseq (xregQ fun Q' hQ=>?_))
  simp [hts]
  subst hQ
  refine xyes (by simp [hts]) ?_
  refine xsr fun Q' hQ=>?_
  simp [hts,hv3r,stOk,oneC]
  subst hQ
  refine xret (fin (x:=stu0) (ok:=false) hO3 hv3r (fun h=>by cases h) (fun _=>hl2 (h2 rfl)) ?_)
  exact⟨_,_,_,rfl⟩
 |true =>
  obtain⟨hrd,hF⟩:=h1 rfl
  obtain⟨hho,hil,hnl⟩:=hl1 f hrd
  obtain⟨vi,vn,vt,hagg,o1,o2,o3⟩:=hF
  have e1:vi=.slice a1 f.ints.length f.ints.length∧vn=.slice a2 f.nats.length f.nats.length:=by cases hagg;exact⟨rfl,rfl⟩
  obtain⟨rfl,rfl⟩:=e1
  obtain⟨bi,eb,hbi1,hbi2,hbi3⟩:=own_some o1 (by omega)
  obtain⟨bn,en,hbn1,hbn2,hbn3⟩:=own_some o2 (by omega)
  obtain rfl:a1=some ⟨bi,0,none⟩:=by cases eb;rfl
  obtain rfl:a2=some ⟨bn,0,none⟩:=by cases en;rfl
  obtain⟨ints,nats,way,text⟩:=f
  simp only at hil hnl hv3 hbi3 hbn3 hho o3 hts ⊢
  obtain⟨y0,y1,y2,y3,y4,y5,rfl⟩:=len6 hil
  obtain⟨z0,z1,z2,rfl⟩:=len3 hnl
  have hb3:vw m3 bi=some ⟨true,3,true,i64s [y0,y1,y2,y3,y4,y5]⟩:=by unfold vw at hbi3 ⊢;rw [hg3 _ (by omega)];exact hbi3
  have hb4:vw m3 bn=some ⟨true,22,true,u64s [z0,z1,z2]⟩:=by unfold vw at hbn3 ⊢;rw [hg3 _ (by omega)];exact hbn3
  simp only [i64s,u64s,List.map_cons,List.map_nil,List.length_cons,List.length_nil,Nat.zero_add,Nat.reduceAdd] at hb3 hb4 hv3
  refine xseq (xseq (xregQ fun Q' hQ=>?_))
  simp [hts]
  subst hQ
  refine xno (by simp [hts]) (xskip ?_)
  refine xseq (xdrw 3 fun Q' hQ=>?_)
  simp [hts,hv3,hb3,hb4]
  subst hQ
  obtain⟨m4,hm4,hn4,hv4,hg4⟩:=alloc_st' m3 24 6 [Value.int IntKind.i64 0,Value.int IntKind.u64 0,Value.int IntKind.u64 0,Value.int IntKind.i64 0,Value.int IntKind.i64 0,Value.int IntKind.i64 0] [Value.int IntKind.i64 y2,Value.int IntKind.u64 z1,Value.int IntKind.u64 z2,Value.int IntKind.i64 y3,Value.int IntKind.i64 y4,Value.int IntKind.i64 y5] rfl rfl rfl
  rw [← hm4]
  clear hm4
  have hk:∀ x,x<m3.next→vw m4 x=vw m3 x:=fun x hx=>by unfold vw;rw [hg4 x hx]
  have hv4r:=(hk r0 (by omega)).trans hv3r
  have hv4q:=(hk q (by omega)).trans hv3
  have hb34:=(hk bi (by omega)).trans hb3
  have hb44:=(hk bn (by omega)).trans hb4
  have hO4:Old m.next m m4:=⟨by have:=hO3.1;omega,fun x hx=>by rw [hg4 x (by omega)];exact hO3.2 x hx⟩
  refine xseq (xdrw 3 fun Q' hQ=>?_)
  simp [hts,hv4,hv4q,hb34,hb44,hv4r,stOk,oneC]
  subst hQ
  refine xret (fin (x:=headF ⟨[y0,y1,y2,y3,y4,y5],[z0,z1,z2],way,text⟩) (ok:=true) hO4 hv4r (fun _=>hho) (fun h=>by cases h) ?_)
  exact⟨_,_,_,rfl⟩
end Go.Proofs.YtgmkbdmgifdfeaaGreatDoor

set_option maxRecDepth 8000
namespace Go.Proofs.YtgmkbdmgifdfeaaGreatDoor
open Go Go.Ev
def dOf (k:Nat) (f:Fs) (a3:Option Addr):Value:=if k=6 then .slice a3 f.text.length f.text.length else .slice none 0 0
def cOf (k:Nat) (f:Fs) (a1:Option Addr):Value:=if k=14 then .slice a1 f.ints.length f.ints.length else .slice none 0 0
def StepFR (k:Nat) (n:Int) (f:Fs) (a1 a3:Option Addr) (m:Mem) (r:Value) (m':Mem):Prop :=
 r=.agg ⟨stpCells (stepF k n f) (dOf k f a3) (cOf k f a1)⟩∧Old m.next m m'
noncomputable def vwJ (m:Mem) (b i:Nat) (l:List Value):Option Vw:=vw (stM m b i l) b
theorem vw_stM_same (m:Mem) (b i:Nat) (l:List Value):vw (stM m b i l) b=match vw m b with
  |some V=>if stOk V i l=true then some ⟨true,V.elem,V.ext,spl V.cs i l⟩ else vwJ m b i l
  |none=>vwJ m b i l:=by
 cases h:vw m b with
 |none=>rfl
 |some V =>
  simp only
  split
  ·exact vw_stM_eq h (by assumption)
  ·rfl
structure StM (m m2:Mem) (r0 k:Nat) (n:Int) (f:Fs) (a1 a2 a3:Option Addr):Prop where
 old:Old m.next m m2
 eq:r0=m.next
 v0:vw m2 r0=some ⟨true,88,false,rowCells k⟩
 v1:vw m2 (r0+1)=some ⟨true,141,false,fsC f a1 a2 a3⟩
 v2:vw m2 (r0+2)=some ⟨true,36,false,stpCells stp0 (.slice none 0 0) (.slice none 0 0)⟩
 v3:vw m2 (r0+3)=some ⟨true,36,false,stpCells { stp0 with kind:=k,node:=n } (.slice none 0 0) (.slice none 0 0)⟩
theorem own_at {n0 n:Nat} {m m2:Mem} {v:Value} {e:TypeId} {cells:List Value} (h:Own n0 m v e n cells) (hn:n≠0) (hO:Old m.next m m2):∃ b,v=.slice (some ⟨b,0,none⟩) n n∧b<m.next∧vw m2 b=some ⟨true,e,true,cells⟩:=by
 obtain⟨b,h1,_,h3,h4⟩:=own_some h hn
 exact⟨b,h1,h3,by rw [hO.vw h3];exact h4⟩
theorem FsV.parts {n0:Nat} {m:Mem} {f:Fs} {a1 a2 a3:Option Addr} (h:FsV n0 m f (.agg ⟨fsC f a1 a2 a3⟩)):Own n0 m (.slice a1 f.ints.length f.ints.length) 3 f.ints.length (i64s f.ints)∧Own n0 m (.slice a2 f.nats.length f.nats.length) 22 f.nats.length (u64s f.nats)∧Own n0 m (.slice a3 f.text.length f.text.length) 5 f.text.length (u8s f.text):=by
 obtain⟨vi,vn,vt,hagg,o1,o2,o3⟩:=h
 have e:vi=.slice a1 f.ints.length f.ints.length∧vn=.slice a2 f.nats.length f.nats.length∧vt=.slice a3 f.text.length f.text.length:=by cases hagg;exact⟨rfl,rfl,rfl⟩
 obtain⟨rfl,rfl,rfl⟩:=e
 exact⟨o1,o2,o3⟩
theorem front79 {m:Mem} {k:Nat} {n:Int} {f:Fs} {a1 a2 a3:Option Addr} {B:SCode} {Q:PostA}
  (h:∀ (l ts:List Value) (m2:Mem) (x0 x2 x4:Value),ts.length=157→StM m m2 m.next k n f a1 a2 a3→l=[x0,.int .i64 n,x2,.pointer (some ⟨m.next,0,none⟩),x4,.pointer (some ⟨m.next+1,0,none⟩),.pointer (some ⟨m.next+2,0,none⟩),.pointer (some ⟨m.next+3,0,none⟩)]++ts→wpX tb ⟨79,.normal,none⟩ B l [] m2 Q) :
  wpX tb ⟨79,.normal,none⟩ (.seq (.reg [⟨some 3,.box 88 (.tmp 0),0,.no⟩,⟨some 5,.box 141 (.tmp 2),0,.no⟩,⟨some 6,.alloc 36,0,.no⟩]) (.seq (.reg [⟨some 8,.fieldAddr 88 (.tmp 3) 2,0,.no⟩,⟨some 9,.load 3 (.tmp 8),3,.no⟩,⟨some 10,.move (.tmp 1),3,.no⟩,⟨some 11,.build 36 #[(0,.tmp 9),(1,.tmp 10)],36,.no⟩,⟨some 7,.alloc 36,0,.no⟩,⟨none,.store 36 (.tmp 7) (.tmp 11),0,.no⟩]) B))
   (.agg ⟨rowCells k⟩::.int .i64 n::.agg ⟨fsC f a1 a2 a3⟩::List.replicate (Tryz.f79.ntmps-3) undef) [] m Q:=by
 have hn:List.replicate (Tryz.f79.ntmps-3) undef=List.replicate 162 undef:=rfl
 rw [hn]
 simp only [List.replicate]
 obtain⟨r0,hr0⟩:∃ r0,r0=m.next:=⟨_,rfl⟩
 rw [← hr0] at h
 refine xseqN (fun l ds m1=>ds=[]∧Old m.next m m1∧m1.next=r0+3∧vw m1 r0=some ⟨true,88,false,rowCells k⟩∧vw m1 (r0+1)=some ⟨true,141,false,fsC f a1 a2 a3⟩∧vw m1 (r0+2)=some ⟨true,36,false,stpCells stp0 (.slice none 0 0) (.slice none 0 0)⟩∧∃ x0 x2 x4,Sl [x0,.int .i64 n,x2,.pointer (some ⟨r0,0,none⟩),x4,.pointer (some ⟨r0+1,0,none⟩),.pointer (some ⟨r0+2,0,none⟩)] 158 l) ?_ ?_
 rotate_left
 ·refine xregQ fun Q' hQ=>?_
  simp only [rowCells,fsC]
  simp
  subst hQ
  refine⟨rfl,(((Old.refl _ _).new (Nat.le_refl _) _).new (by rw [next_newObjA];omega) _).new (by rw [next_newObjA,next_newObjA];omega) _,by rw [next_newObjA,next_newObjA,next_newObjA,hr0],?_,?_,?_,_,_,_,Sl.mk (by rw [hr0];rfl) rfl⟩
  ·simp [hr0,show ¬ m.next=m.next+1+1 by omega,show ¬ m.next=m.next+1 by omega];rfl
  ·simp [hr0,show ¬ m.next+1=m.next+1+1 by omega];rfl
  ·simp [hr0];rfl
 rintro l ds m1 ⟨rfl,hO1,hn1,h0,h1,h2,x0,x2,x4,ts,hts,rfl⟩
 simp only [rowCells] at h0
 obtain⟨y7,ts7,rfl,hts7⟩:=ln_succ (n:=157) hts
 refine xsr fun Q' hQ=>?_
 simp [hts7,h0,hn1]
 obtain⟨m2,hm2,hn2,hv2,hg2⟩:=alloc_st' m1 36 17 [Value.int IntKind.i64 0,Value.int IntKind.i64 0,Value.int IntKind.i64 0,Value.int IntKind.u64 0,Value.int IntKind.u64 0,Value.slice none 0 0,Value.int IntKind.u64 0,Value.int IntKind.i64 0,Value.int IntKind.i64 0,Value.int IntKind.i64 0,Value.int IntKind.i64 0,Value.int IntKind.i64 0,Value.int IntKind.u32 0,Value.int IntKind.u64 0,Value.slice none 0 0,Value.int IntKind.i64 0,Value.int IntKind.u64 0] (stpCells { stp0 with kind:=k,node:=n } (.slice none 0 0) (.slice none 0 0)) rfl rfl rfl
 simp only [stpCells,stp0,hn1] at hm2 hv2
 rw [← hm2]
 subst hQ
 have hk:∀ x,x<r0+3→vw m2 x=vw m1 x:=fun x hx=>by unfold vw;rw [hg2 x (by omega)]
 refine h _ _ m2 x0 x2 x4 ?_ ⟨⟨by have:=hO1.1;omega,fun x hx=>by rw [hg2 x (by omega)];exact hO1.2 x hx⟩,hr0,by rw [hk _ (by omega)];exact h0,by rw [hk _ (by omega)];exact h1,by rw [hk _ (by omega)];exact h2,hv2⟩ rfl
 simp [hts7]
theorem tail79 {m m3:Mem} {k:Nat} {n:Int} {f:Fs} {a1 a3:Option Addr} {l ts:List Value} {x0 x1 x2 x3 x4 x5:Value} (hO:Old m.next m m3) (hv2:vw m3 (m.next+2)=some ⟨true,36,false,stpCells stp0 (.slice none 0 0) (.slice none 0 0)⟩) {s:Stp} {ad ac:Option Addr} {nd nc:Nat}
  (hv3:vw m3 (m.next+3)=some ⟨true,36,false,stpCells s (.slice ad nd nd) (.slice ac nc nc)⟩) (hs:s=stepF k n f) (hd':.slice ad nd nd=dOf k f a3) (hc':.slice ac nc nc=cOf k f a1) (hl:l=[x0,x1,x2,x3,x4,x5,.pointer (some ⟨m.next+2,0,none⟩),.pointer (some ⟨m.next+3,0,none⟩)]++ts) (hts:ts.length=157) :
  wpX tb ⟨79,.normal,none⟩ (.seq (.reg [⟨some 164,.load 36 (.tmp 7),36,.no⟩,⟨none,.store 36 (.tmp 6) (.tmp 164),0,.no⟩]) .ret) l [] m3 (endX tb Tryz.f79.results.toList (retR (StepFR k n f a1 a3 m))):=by
 subst hl
 have hst:stOk ⟨true,36,false,stpCells stp0 (.slice none 0 0) (.slice none 0 0)⟩ 0 (stpCells s (.slice ad nd nd) (.slice ac nc nc))=true:=by simp [stOk,stpCells,oneC]
 have hall:(stpCells s (.slice ad nd nd) (.slice ac nc nc)).all oneC=true:=by simp [stpCells,oneC]
 have hln:(stpCells s (.slice ad nd nd) (.slice ac nc nc)).length=17:=rfl
 have hz:(stpCells stp0 (.slice none 0 0) (.slice none 0 0)).length=17:=rfl
 have htk:takeN (stpCells s (.slice ad nd nd) (.slice ac nc nc)) 0 17=stpCells s (.slice ad nd nd) (.slice ac nc nc):=rfl
 refine xsr fun Q' hQ=>?_
 simp [hts,hv2,hv3,hall,hln,hz,htk]
 subst hQ
 refine xret ⟨rfl,.agg ⟨stpCells s (.slice ad nd nd) (.slice ac nc nc)⟩,?_,?_,?_⟩
 ·show resX tb [.cell 6 36] _ _=_
  unfold resX
  rw [resA_cell (i:=6) (b:=m.next+2) (v:=.agg ⟨stpCells s (.slice ad nd nd) (.slice ac nc nc)⟩) rfl ((loadA_all Ty.ti36 Ty.g36 (vw_stM_eq hv2 hst) (by rw [Ty.s36,spl_length];rfl)).trans (by rfl)) resA_nil]
 ·rw [hs,hd',hc']
 ·exact hO.st (by omega) _ _
end Go.Proofs.YtgmkbdmgifdfeaaGreatDoor

