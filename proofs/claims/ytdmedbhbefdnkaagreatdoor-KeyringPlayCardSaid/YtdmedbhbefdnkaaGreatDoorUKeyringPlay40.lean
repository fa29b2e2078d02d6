/- HashEq HeadEq -/
import Derived.WalkMore
import Derived.Test.YtdmedbhbefdnkaaGreatDoorUKeyringPlay28
import Derived.Test.YtdmedbhbefdnkaaGreatDoorUKeyringPlay10
set_option linter.unusedVariables false
set_option linter.unusedSimpArgs false
set_option maxRecDepth 100000
set_option maxHeartbeats 16000000
namespace Go.Proofs.YtdmedbhbefdnkaaGreatDoor
open Go.RowKit
def ints8 (l:By):List Int:=l.map fun b=>(b.toNat:Int)
theorem bytes8_ints (l:By):bytes8 l=(ints8 l).map (Value.int .u8):=by simp[bytes8,ints8]
theorem ints8_inj {a b:By} : ints8 a=ints8 b↔a=b:=by
 constructor
 ·intro h
  apply List.ext_getElem
  ·have:=congrArg List.length h
   simpa[ints8]using this
  ·intro i h1 h2
   have h3:(ints8 a)[i]? = (ints8 b)[i]?:=by rw[h]
   simp[ints8,List.getElem?_eq_getElem h1,List.getElem?_eq_getElem h2]at h3
   exact UInt8.toNat_inj.1 (by omega)
 ·rintro rfl;rfl
theorem hash_under:Tryz.prog.underlying 30=some (.array 32 5):=Tryz.underlying30
theorem neq_hash (w:World) (a b:By) (ha:a.length=32) (hb:b.length=32) :
  (binOp .neq 30 (.agg (bytes8 a).toArray) (.agg (bytes8 b).toArray)).run Tryz.prog w = .ok (.bool (!decide (a=b))) w:=by
 obtain⟨i,hi,_⟩:=info_parts info_u8
 rw[bytes8_ints,bytes8_ints,run_neq_ints w hash_under Tryz.underlying5 hi (by kernel_rfl) (ints8 a) (ints8 b) (by simp[ints8,ha]) (by simp[ints8,hb])]
 simp only[ints8_inj]
theorem eql_hash (w:World) (a b:By) (ha:a.length=32) (hb:b.length=32) :
  (binOp .eql 30 (.agg (bytes8 a).toArray) (.agg (bytes8 b).toArray)).run Tryz.prog w = .ok (.bool (decide (a=b))) w:=by
 obtain⟨i,hi,_⟩:=info_parts info_u8
 rw[bytes8_ints,bytes8_ints,run_eql_ints w hash_under Tryz.underlying5 hi (by kernel_rfl) (ints8 a) (ints8 b) (by simp[ints8,ha]) (by simp[ints8,hb])]
 simp only[ints8_inj]
theorem wpList_load_wanted {P:Program} {ops:Array Oper} {rest:List Oper} {op:Oper} {a:Act} {w:World} {Q:Exit->Act->World->Prop} (hgd:Region.wanted op (yielded ops a.tmps)=true) (ty:TypeId) (x:Operand) (ho:op.op = .load ty x)
  (b o:Nat) (hx:a.eval x = .pointer (some ⟨b,o,none⟩)) (cs:List Value) (d:TypeDesc) (hc:w.rangeAt b o cs)
  (hu:P.underlying ty=some d) (hd:d.isRow=true) (hi:(P.info? ty).map (·.size)=some cs.length)
  (h:wpList P ops Q rest (a.put op.dst (.agg cs.toArray)) w):wpList P ops Q (op::rest) a w:=by
 unfold wpList
 rw[if_pos hgd]
 exact Or.inl (wp_load_mid ty x ho b o hx cs d hc hu hd hi h)
theorem eqFields_two {P:Program} (w:World) (d:Nat) (xs ys:Array Value) (f1 f2:Field) (n1:f1.name ≠ "_") (n2:f2.name ≠ "_") {a1 b1 a2 b2:Value} {r1 r2:Bool}
  (p1:(part f1.type xs f1.offset).run P w = .ok a1 w) (q1:(part f1.type ys f1.offset).run P w = .ok b1 w) (e1:(Op.equalIn d f1.type a1 b1).run P w = .ok r1 w)
  (p2:(part f2.type xs f2.offset).run P w = .ok a2 w) (q2:(part f2.type ys f2.offset).run P w = .ok b2 w) (e2:(Op.equalIn d f2.type a2 b2).run P w = .ok r2 w) :
  (Op.eqFields d xs ys [f1,f2]).run P w = .ok (r1&&r2) w:=by
 cases r1<;>cases r2<;>simp[Op.eqFields,n1,n2,Sem.run_bind,p1,q1,e1,p2,q2,e2,Result.andThen_ok]
theorem head_fields:(Tryz.prog.fieldsOf 32).toList.map (fun f=>(f.name,f.type,f.offset))=[("Size",3,0),("Root",30,1)]:=by kernel_rfl
theorem part_int (w:World) (size:Int) (root:By):(part 3 (headC size root).toArray 0).run Tryz.prog w = .ok (.int .i64 size) w :=
 run_part_plain w (by kernel_rfl) (by simp)
theorem part_hash (w:World) (size:Int) (root:By) (hr:root.length=32):(part 30 (headC size root).toArray 1).run Tryz.prog w = .ok (.agg (bytes8 root).toArray) w:=by
 have h1:=Tryz.isAgg30 w
 have h2:=Tryz.sizeOf30 w
 have e:(headC size root).toArray.extract 1 (1+32)=(bytes8 root).toArray:=by
  apply Array.ext'
  simp only[Array.toList_extract,List.extract_eq_take_drop,List.drop_succ_cons,List.drop_zero]
  rw[List.take_of_length_le (by rw[bytes8_len];omega)]
 unfold part
 simp only[Sem.run_bind,h1,h2,Result.andThen_ok,if_true,Sem.run_pure,e]
theorem equalIn_hash (w:World) (d:Nat) (a b:By) (ha:a.length=32) (hb:b.length=32):(Op.equalIn (d+2) 30 (.agg (bytes8 a).toArray) (.agg (bytes8 b).toArray)).run Tryz.prog w = .ok (decide (a=b)) w:=by
 obtain⟨i,hi,_⟩:=info_parts info_u8
 rw[bytes8_ints,bytes8_ints,run_equalIn_ints w d hash_under Tryz.underlying5 hi (by kernel_rfl) (ints8 a) (ints8 b) (by simp[ints8,ha]) (by simp[ints8,hb])]
 simp only[ints8_inj]
theorem equalIn_head (w:World) (d:Nat) (x y:Int) (a b:By) (ha:a.length=32) (hb:b.length=32) :
  (Op.equalIn (d+3) 32 (headV x a) (headV y b)).run Tryz.prog w = .ok (decide (x=y/\a=b)) w:=by
 rw[run_equalIn_struct w (d+2) 32 _ _ (by kernel_rfl) (by kernel_rfl)]
 have hf:=head_fields
 generalize(Tryz.prog.fieldsOf 32).toList=fs at hf
 rcases fs with _|⟨f1,_|⟨f2,_|⟨f3,r⟩⟩⟩
 ·simp at hf
 ·simp at hf
 ·simp only[List.map_cons,List.map_nil,List.cons.injEq,Prod.mk.injEq,and_true]at hf
  obtain⟨⟨m1,t1,o1⟩,m2,t2,o2⟩:=hf
  rw[eqFields_two (P:=Tryz.prog) w (d+2) _ _ f1 f2 (by rw[m1];simp) (by rw[m2];simp) (by rw[t1,o1];exact part_int w x a) (by rw[t1,o1];exact part_int w y b) (by rw[t1];exact run_equalIn_int (P:=Tryz.prog) w (d+1) 3 .i64 .i64 x y Tryz.underlying3)
   (by rw[t2,o2];exact part_hash w x a ha) (by rw[t2,o2];exact part_hash w y b hb) (by rw[t2];exact equalIn_hash w d a b ha hb)]
  congr 1
  by_cases h1:x=y<;>by_cases h2:a=b<;>simp[h1,h2]
 ·simp at hf
theorem eql_head (w:World) (x y:Int) (a b:By) (ha:a.length=32) (hb:b.length=32) :
  (binOp .eql 32 (headV x a) (headV y b)).run Tryz.prog w = .ok (.bool (decide (x=y/\a=b))) w:=by
 rw[run_eql_struct,equalIn_head (d:=9997) w x y a b ha hb]
 rfl
theorem neq_head (w:World) (x y:Int) (a b:By) (ha:a.length=32) (hb:b.length=32) :
  (binOp .neq 32 (headV x a) (headV y b)).run Tryz.prog w = .ok (.bool (!decide (x=y/\a=b))) w:=by
 rw[run_neq_struct,equalIn_head (d:=9997) w x y a b ha hb]
 rfl
end Go.Proofs.YtdmedbhbefdnkaaGreatDoor
