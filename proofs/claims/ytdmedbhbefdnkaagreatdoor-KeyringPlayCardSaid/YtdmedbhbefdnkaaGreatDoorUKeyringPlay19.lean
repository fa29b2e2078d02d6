/- Disk4 Disk5 Disk6 Disk7 Disk8 -/
import Derived.Laws.BytesArg
import Derived.Laws.IdiomStrings
import Derived.Test.YtdmedbhbefdnkaaGreatDoorUKeyringPlay16
set_option linter.unusedVariables false
set_option linter.unusedSimpArgs false
set_option maxRecDepth 100000
set_option maxHeartbeats 16000000
namespace Go.Proofs.YtdmedbhbefdnkaaGreatDoor
open Go.RowKit
theorem bcells_at (b:List UInt8) (j:Nat) (h:j<b.length):(bcells b)[j]? = some (.int .u8 (b[j].toNat:Int)):=by simp[bcells,List.getElem?_eq_getElem h]
theorem Row.substr {w:World} {v:Value} {b:List UInt8} (h:Row w 5 1 v (bcells b)) (pos size:Nat) (hle:pos+size<=b.length) :
  ∃ sv,(Instr.slice 72 v (some (.int .i64 pos)) (some (.int .i64 ((pos:Int)+(size:Int)))) none).run Tryz.prog w = .ok sv w/\(convert 72 9 sv).run Tryz.prog w = .ok (.string ⟨((b.drop pos).take size).toArray⟩) w:=by
 have hsz:(sizeOf (Tryz.prog.elem 72)).run Tryz.prog w = .ok 1 w:=by kernel_rfl
 have hz:∀ (a:Option Addr) (c:Nat),(convert 72 9 (.slice a 0 c)).run Tryz.prog w = .ok (.string ⟨#[]⟩) w:=by
  intro a c
  cases a with
  | none=>rw[run_convert_bytes_string w _ _ _ none 0 c Tryz.underlying72 Tryz.underlying5 Tryz.underlying9];simp[Conv.bytesToString];rfl
  | some a =>
   exact run_convert_bytes_back w 72 9 5 a c [] Tryz.underlying72 Tryz.underlying5 Tryz.underlying9 (fun j hj=>by simp at hj)
 obtain⟨a,m,cap,rfl,hm,hm1,hc⟩:=h.form (by omega)
 rw[bcells_len]at hm
 have hcap:m<=cap:=by
  rcases h with⟨h,_⟩|⟨g,n,cap',rest,hv,_,_,h2,_⟩
  ·cases h;exact Nat.le_refl _
  ·simp only[Value.slice.injEq]at hv;omega
 have hs:=run_slice_lh (P:=Tryz.prog) (w:=w) 72 a m cap (by kernel_rfl) .i64 .i64 (pos:Int) ((pos:Int)+(size:Int)) (by omega) (by omega) (by omega)
 rw[hsz]at hs
 simp only[Result.andThen,sliced]at hs
 refine⟨_,hs,?_⟩
 have e1:((pos:Int)+(size:Int)).toNat-(pos:Int).toNat=size:=by omega
 rw[e1]
 by_cases h0:size=0
 ·subst h0
  rw[hz]
  simp
 ·obtain⟨g,rfl,_,hcell⟩:=hc (by omega)
  have e2:¬ cap=(pos:Int).toNat:=by omega
  rw[if_neg e2]
  have hl:((b.drop pos).take size).length=size:=by simp;omega
  have:=run_convert_bytes_back w 72 9 5 ⟨g,pos,none⟩ (cap-(pos:Int).toNat) ((b.drop pos).take size) Tryz.underlying72 Tryz.underlying5 Tryz.underlying9 (fun j hj=>?_)
  ·rw[hl]at this
   rw[<- this]
   simp[addr0_add]
  ·have hj2:pos+j<b.length:=by simp at hj;omega
   have:=hcell (pos+j) _ (bcells_at b (pos+j) hj2)
   have ha:(⟨g,pos,none⟩:Addr).add j=⟨g,pos+j,none⟩:=by unfold Addr.add;split<;>simp_all
   rw[ha,this]
   simp
section
variable {d : Nat} {fp : Nat → Prop} {M : DiskM}
theorem read_ok (w:World) (n:Int) (pos size:Nat) (n0 : -9223372036854775808<=n/\n<=9223372036854775807) (b:List UInt8) (hd:IsDisk w d fp M) (hdn:M.down=false) (hb:AM.get M.files n=some b) (hle:pos+size<=b.length) :
  Calls Tryz.prog 52 #[.pointer (some ⟨d,0,none⟩),.int .i64 n,.int .i64 pos,.int .i64 size] w fun e w'=>e = .returned (.tuple #[.string ⟨((b.drop pos).take size).toArray⟩,.int .i64 0])/\w=w':=by
 have h0:M.has n=0:=by simp[DiskM.has,hdn,hb]
 have hc:=has_any w n n0 hd
 rw[h0]at hc
 obtain⟨mb,lv,fs,h⟩:=hd
 have c0:=h.head.cell (i:=0) rfl
 obtain⟨v,hv⟩:=h.get_some hb
 have hl:=h.map.look (t:=75) (e:=72) Tryz.underlying3 Tryz.underlying75 (zeroBytes w) n0
 rw[hv,Option.getD_some]at hl
 have hrow:=h.rows n v b hv hb
 obtain⟨sv,hs1,hs2⟩:=hrow.substr pos size hle
 obtain⟨a,m,cap,rfl,hm,hml,_⟩:=hrow.form (by omega)
 rw[bcells_len]at hm
 have hml':maxLen=9223372036854775807:=rfl
 have x1:decide ((pos:Int)<0)=false:=by simp
 have x2:decide (m<pos)=false:=by simp;omega
 have x2':pos<=m:=by omega
 have x3:decide ((size:Int)<0)=false:=by simp
 have x4:decide ((size:Int)>(m:Int)-(pos:Int))=false:=by simp;omega
 have x5:IntKind.i64.wrap ((m:Int)-(pos:Int))=(m:Int)-(pos:Int):=IntWalk.i64_in _ (by omega)
 have x6:IntKind.i64.wrap ((pos:Int)+(size:Int))=(pos:Int)+(size:Int):=IntWalk.i64_in _ (by omega)
 clear hrow hm hb hv h0 hle
 go_enter Tryz.func52,Tryz.ntmps52
 go_wp2_with (go_at_call 29;refine hc.mono ?_;rintro e w' ⟨rfl,rfl⟩)
 exact bodyPost_ret (v:=.tuple #[.string ⟨((b.drop pos).take size).toArray⟩,.int .i64 0]) (by simp[results,Tryz.results52,go_sem]) rfl ⟨rfl,rfl⟩
end
theorem looseAll_le {M:DiskM} (h:M.Ok):DiskM.looseAll M.loose<=M.total:=by
 have key:∀ (l:List (Int × Nat)) (F:List (Int × List UInt8)),AM.Rise F->(∀ n,DiskM.looseOf l n<=((AM.get F n).getD []).length)->DiskM.looseAll l<=AM.sum List.length F:=by
  intro l
  induction l with
  | nil=>intro F _ _;simp[DiskM.looseAll]
  | cons p r ih =>
   intro F hF hl
   have hp:=hl p.1
   simp only[DiskM.looseOf,if_true]at hp
   have e:DiskM.looseAll (p::r)=p.2+DiskM.looseAll r:=by simp[DiskM.looseAll]
   rw[e]
   cases hg:AM.get F p.1 with
   | none =>
    rw[hg]at hp
    simp at hp
    have:=ih F hF (fun n=>by have:=hl n;simp only[DiskM.looseOf]at this;omega)
    omega
   | some b =>
    rw[hg]at hp
    simp only[Option.getD_some]at hp
    have hF2:=AM.rise_set hF p.1 (b.take (b.length-p.2))
    have:=ih (AM.set F p.1 (b.take (b.length-p.2))) hF2 (fun n=>by
     by_cases hn:n=p.1
     ·subst hn
      rw[AM.get_set_same hF]
      simp;omega
     ·rw[AM.get_set_other hF _ hn]
      have:=hl n
      simp only[DiskM.looseOf]at this
      omega)
    rw[AM.sum_set]at this
    rw[AM.sum_del List.length hF hg]
    simp at this
    omega
 exact key M.loose M.files h.rise h.lo
section
variable {d : Nat} {fp : Nat → Prop} {M : DiskM}
theorem looseAll_take (l:List (Int × Nat)) (i:Nat) (p:Int × Nat) (h:l[i]? = some p):DiskM.looseAll (l.take (i+1))=DiskM.looseAll (l.take i)+p.2:=by
 rw[List.take_add_one,h]
 simp[DiskM.looseAll]
theorem looseAll_take_le (l:List (Int × Nat)) (i:Nat):DiskM.looseAll (l.take i)<=DiskM.looseAll l:=by
 have e:DiskM.looseAll l=DiskM.looseAll (l.take i)+DiskM.looseAll (l.drop i):=by
  conv=>lhs;rw[<- List.take_append_drop i l]
  simp only[DiskM.looseAll,List.map_append,List.sum_append]
 omega
theorem Row.cellsAt {w:World} {e:TypeId} {size g n cap:Nat} {xs:List Value} (h:Row w e size (.slice (some ⟨g,0,none⟩) n cap) xs) {j:Nat} {u:Value} (hj:xs[j]? = some u):w.cell? ⟨g,j,none⟩=some u:=by
 rcases h with⟨h,_⟩|⟨g',n',cap',rest,hv,_,hb,_⟩
 ·cases h
 ·simp only[Value.slice.injEq,Option.some.injEq,Addr.mk.injEq,and_true]at hv
  obtain⟨rfl,rfl,rfl⟩:=hv
  refine hb.cell ?_
  rw[List.getElem?_append_left (List.getElem?_eq_some_iff.1 hj).1]
  exact hj
end
def ivals (G:List (Int × Nat)):List (Int × Value):=AM.vmap (fun n:Nat=>Value.int .i64 (n:Int)) G
theorem ivals_get (G:List (Int × Nat)) (n:Int):(AM.get (ivals G) n).getD (.int .i64 0) = .int .i64 (((AM.get G n).getD 0:Nat):Int):=by
 unfold ivals
 rw[AM.get_vmap]
 cases AM.get G n<;>rfl
theorem ivals_set (G:List (Int × Nat)) (n:Int) (k:Nat):AM.set (ivals G) n (.int .i64 (k:Int))=ivals (AM.set G n k):=by
 unfold ivals
 rw[AM.vmap_set]
def gfold (l:List (Int × Nat)) (keep:Int) (i:Nat):Int × List (Int × Nat):=(l.take i).foldl DiskM.gstep (keep,[])
theorem gfold_zero (l:List (Int × Nat)) (keep:Int):gfold l keep 0=(keep,[]):=by simp[gfold]
theorem gfold_succ (l:List (Int × Nat)) (keep:Int) (i:Nat) (p:Int × Nat) (h:l[i]? = some p):gfold l keep (i+1)=DiskM.gstep (gfold l keep i) p:=by
 unfold gfold
 rw[List.take_add_one,h]
 simp
theorem looseOf_append (l r:List (Int × Nat)) (n:Int):DiskM.looseOf (l++r) n=DiskM.looseOf l n+DiskM.looseOf r n:=by
 induction l with
 | nil=>simp[DiskM.looseOf]
 | cons a l ih=>simp only[List.cons_append,DiskM.looseOf,ih];omega
theorem gfold_le (l:List (Int × Nat)) (keep:Int) (i:Nat) (p:Int × Nat) (h:l[i]? = some p):(AM.get (gfold l keep i).2 p.1).getD 0+p.2<=DiskM.looseOf l p.1:=by
 have h1:=(DiskM.fold_get (l.take i) (st:=(keep,[])) AM.rise_nil p.1).1
 have h2:DiskM.looseOf l p.1=DiskM.looseOf (l.take (i+1)) p.1+DiskM.looseOf (l.drop (i+1)) p.1:=by rw[<- looseOf_append,List.take_append_drop]
 rw[List.take_add_one,h,looseOf_append]at h2
 simp[DiskM.looseOf]at h2
 have h3:(AM.get ([]:List (Int × Nat)) p.1).getD 0=0:=rfl
 simp only[h3]at h1
 unfold gfold
 omega
theorem gfold_keep (l:List (Int × Nat)) (keep:Int) (i:Nat):(keep<0->(gfold l keep i).1=keep)/\(0<=keep->0<=(gfold l keep i).1/\(gfold l keep i).1<=keep):=DiskM.fold_keep (l.take i) (keep,[])
section
variable {w w' : World} {d mb : Nat} {fp : Nat → Prop} {M : DiskM} {lv : Value} {fs : List (Int × Value)}
theorem DiskRaw.low (h:DiskRaw w d fp M mb lv fs):DiskRaw w d (fun x=>fp x/\x<w.heap.size) M mb lv fs:=by
 refine⟨h.head,h.map,h.keys,h.rows,h.apart,h.loose,⟨h.fpd,h.head.lt⟩,⟨h.fpm,h.map.lt⟩,fun k hk=>⟨h.fpl k hk,h.loose.lt hk⟩,fun n v k h1 h2=>⟨h.fpf n v k h1 h2,?_⟩⟩
 have hs:=h.keys n
 rw[h1]at hs
 obtain⟨b,hb⟩:=Option.isSome_iff_exists.1 hs.symm
 exact(h.rows n v b h1 hb).lt h2
theorem DiskRaw.fpmono {fp':Nat->Prop} (h:DiskRaw w d fp M mb lv fs) (hf:∀ x,fp x->fp' x):DiskRaw w d fp' M mb lv fs :=
 ⟨h.head,h.map,h.keys,h.rows,h.apart,h.loose,hf _ h.fpd,hf _ h.fpm,fun k hk=>hf _ (h.fpl k hk),fun n v k h1 h2=>hf _ (h.fpf n v k h1 h2)⟩
theorem MapI.ne_row {P:Program} {k e:TypeId} {b n size g:Nat} {m:List (Int × Value)} {v:Value} {xs:List Value} (h:MapI P k w b n m) (hr:Row w e size v xs) (hg:v.ownBlock=some g):g≠b:=by
 rcases hr with⟨rfl,_⟩|⟨g',n',cap,rest,rfl,_,hb,_⟩
 ·simp[Value.ownBlock]at hg
 ·simp[Value.ownBlock]at hg
  subst hg
  exact fun e=>h.ne_blk hb e.symm
theorem DiskRaw.setFile (h:DiskRaw w d fp M mb lv fs) (hF:AM.Rise M.files) {a:Int} {v:Value} {b:List UInt8} {n:Nat} (hm:MapI Tryz.prog 3 w' mb n (AM.set fs a v)) (hk:Kept (· = mb) w w') (hrow:Row w 5 1 v (bcells b))
  (hap:∀ n' v' k,n'≠a->AM.get fs n'=some v'->v'.ownBlock=some k->v.ownBlock≠some k) (hfp:∀ k,v.ownBlock=some k->fp k):DiskRaw w' d fp { M with files:=AM.set M.files a b } mb lv (AM.set fs a v):=by
 have hr:=h.map.rise Tryz.underlying3
 have hne:∀ n' v' k,AM.get fs n'=some v'->v'.ownBlock=some k->k≠mb:=by
  intro n' v' k h1 h2
  have hs:=h.keys n'
  rw[h1]at hs
  obtain⟨b',hb'⟩:=Option.isSome_iff_exists.1 hs.symm
  exact h.map.ne_row (h.rows n' v' b' h1 hb') h2
 refine⟨h.head.kept hk (fun e=>h.map.ne_blk h.head e.symm),hm.tight,fun n'=>?_,fun n' v' b' h1 h2=>?_,fun n1 n2 v1 v2 k h1 h2 h3 h4=>?_,h.loose.kept hk (fun k hk' e=>h.map.ne_row h.loose hk' e),h.fpd,h.fpm,h.fpl,fun n' v' k h1 h2=>?_⟩
 ·show _=(AM.get (AM.set M.files a b) n').isSome
  by_cases e:n'=a
  ·subst e;rw[AM.get_set_same hr,AM.get_set_same hF];rfl
  ·rw[AM.get_set_other hr _ e,AM.get_set_other hF _ e];exact h.keys n'
 ·replace h2:AM.get (AM.set M.files a b) n'=some b':=h2
  by_cases e:n'=a
  ·subst e
   rw[AM.get_set_same hr]at h1
   rw[AM.get_set_same hF]at h2
   cases h1;cases h2
   exact hrow.kept hk (fun k hk' e=>h.map.ne_row hrow hk' e)
  ·rw[AM.get_set_other hr _ e]at h1
   rw[AM.get_set_other hF _ e]at h2
   exact(h.rows n' v' b' h1 h2).kept hk (fun k hk' e=>hne n' v' k h1 hk' e)
 ·by_cases e1:n1=a
  ·by_cases e2:n2=a
   ·rw[e1,e2]
   ·subst e1
    rw[AM.get_set_same hr]at h1
    cases h1
    rw[AM.get_set_other hr _ e2]at h2
    exact absurd h3 (hap n2 v2 k e2 h2 h4)
  ·by_cases e2:n2=a
   ·subst e2
    rw[AM.get_set_same hr]at h2
    cases h2
    rw[AM.get_set_other hr _ e1]at h1
    exact absurd h4 (hap n1 v1 k e1 h1 h3)
   ·rw[AM.get_set_other hr _ e1]at h1
    rw[AM.get_set_other hr _ e2]at h2
    exact h.apart n1 n2 v1 v2 k h1 h2 h3 h4
 ·by_cases e:n'=a
  ·subst e
   rw[AM.get_set_same hr]at h1
   cases h1
   exact hfp k h2
  ·rw[AM.get_set_other hr _ e]at h1
   exact h.fpf n' v' k h1 h2
theorem DiskRaw.noLoose (h:DiskRaw w d fp M mb lv fs):DiskRaw (w.setCell ⟨d,1,none⟩ (.slice none 0 0)) d fp { M with loose:=[] } mb (.slice none 0 0) fs:=by
 refine⟨h.head.set 1 _,h.map.other (fun e=>h.map.ne_blk h.head e.symm) _,h.keys,fun n x b h1 h2=>(h.rows n x b h1 h2).other (fun e=>h.row_ne h1 e rfl) _,h.apart,Row.nil _ _ _,h.fpd,h.fpm,fun k hk=>by simp[Value.ownBlock]at hk,h.fpf⟩
theorem AM.length_del_some {α : Type} {m:List (Int × α)} (h:AM.Rise m) {k:Int} {v : α} (hg:AM.get m k=some v):(AM.del m k).length+1=m.length:=by
 have:=AM.sum_del (fun _=>1) h hg
 have e:∀ l:List (Int × α),AM.sum (fun _=>1) l=l.length:=by
  intro l
  induction l with
  | nil=>rfl
  | cons p r ih=>rw[AM.sum_cons,ih,List.length_cons];omega
 rw[e,e]at this
 omega
theorem DiskRaw.len_eq (h:DiskRaw w d fp M mb lv fs) (hF:AM.Rise M.files):fs.length=M.files.length:=by
 have hr:=h.map.rise Tryz.underlying3
 have e:AM.vmap (fun _=>()) fs=AM.vmap (fun _=>()) M.files:=by
  refine AM.ext (AM.rise_vmap hr _) (AM.rise_vmap hF _) (fun n=>?_)
  rw[AM.get_vmap,AM.get_vmap]
  have:=h.keys n
  cases h1:AM.get fs n<;>cases h2:AM.get M.files n<;>simp_all
 have:=congrArg List.length e
 simpa[AM.vmap]using this
theorem DiskRaw.rowOf (h:DiskRaw w d fp M mb lv fs) (n:Int):Row w 5 1 ((AM.get fs n).getD (.slice none 0 0)) (bcells ((AM.get M.files n).getD [])):=by
 cases hg:AM.get M.files n with
 | none=>rw[h.get_none hg];exact Row.nil _ _ _
 | some b =>
  obtain⟨v,hv⟩:=h.get_some hg
  rw[hv]
  exact h.rows n v b hv hg
theorem Row.head {a:Option Addr} {n cap:Nat} {b:List UInt8} (h:Row w 5 1 (.slice a n cap) (bcells b)) (m:Nat) (hm:m<=n) (x:Int) (hx:x=m) :
  (Instr.slice 72 (.slice a n cap) none (some (.int .i64 x)) none).run Tryz.prog w = .ok (.slice a m cap) w/\Row w 5 1 (.slice a m cap) (bcells (b.take m)):=by
 subst hx
 have hsz:(sizeOf (Tryz.prog.elem 72)).run Tryz.prog w = .ok 1 w:=by kernel_rfl
 have hcap:n<=cap:=by
  rcases h with⟨h,_⟩|⟨g,n',cap',rest,hv,_,_,h2,_⟩
  ·cases h;exact Nat.le_refl _
  ·simp only[Value.slice.injEq]at hv;omega
 have hs:=run_slice_h (P:=Tryz.prog) (w:=w) 72 a n cap (by kernel_rfl) .i64 (m:Int) (by omega) (by omega)
 rw[hsz]at hs
 simp only[Result.andThen,sliced]at hs
 have ea:(if cap=0 then a else a.map (·.add (0*1)))=a:=by
  split
  ·rfl
  ·cases a<;>simp[Addr.add]
 refine⟨by rw[hs,ea];simp,?_⟩
 rcases h with⟨h,hb⟩|⟨g,n',cap',rest,hv,h1,h2⟩
 ·cases h
  have:m=0:=by omega
  subst this
  exact Or.inl ⟨rfl,by simp[bcells]⟩
 ·have hrow:Row w 5 1 (.slice a n cap) (bcells b):=Or.inr ⟨g,n',cap',rest,hv,h1,h2⟩
  simp only[Value.slice.injEq]at hv
  obtain⟨rfl,rfl,rfl⟩:=hv
  have:=hrow.shorter m hm
  rw[Nat.mul_one]at this
  have e:bcells (b.take m)=(bcells b).take m:=by simp[bcells,List.map_take]
  rw[e];exact this
end
section
variable {d : Nat} {fp : Nat → Prop} {M : DiskM}
theorem crash_down (w:World) (keep:Int) (hd:IsDisk w d fp M) (hdn:M.down=true):Calls Tryz.prog 54 #[.pointer (some ⟨d,0,none⟩),.int .i64 keep] w fun e w'=>e = .returned (.int .i64 61)/\w=w':=by
 have hr:M.ready=61:=by simp[DiskM.ready,hdn]
 go_enter Tryz.func54,Tryz.ntmps54
 go_wp2_with (go_at_call 76;refine(ready_any _ hd).mono ?_;rw[hr];rintro e w' ⟨rfl,rfl⟩)
 go_ret
 exact⟨rfl,rfl⟩
theorem zeroInt (w:World):(zeroValue 3).run Tryz.prog w = .ok (.int .i64 0) w:=by kernel_rfl
theorem crash_up (w:World) (keep:Int) (k0 : -9223372036854775808<=keep/\keep<=9223372036854775807) (hd:IsDisk w d fp M) (hdn:M.down=false):Calls Tryz.prog 54 #[.pointer (some ⟨d,0,none⟩),.int .i64 keep] w fun e w'=>e = .returned (.int .i64 0)/\IsDisk w' d fp (M.crash keep)/\Kept fp w w':=by
 have hr:M.ready=0:=by simp[DiskM.ready,hdn]
 have hc:=ready_any w hd
 rw[hr]at hc
 obtain⟨mb,lv,fs,h⟩:=hd
 have c1:=(h.head.kept (S:=fun _=>False) ((Kept.refl _ _).alloc (.map #[] 0)) id).cell (i:=1) rfl
 have hrow:=h.loose
 have hok:=h.ok
 obtain⟨a,m,cap,rfl,hm,hml,hcell⟩:=hrow.form (by omega)
 rw[pcells_len]at hm
 have hml':maxLen=9223372036854775807:=rfl
 have hlen:M.loose.length=m:=by omega
 have hmm:=@run_makeMap Tryz.prog
 clear hm
 go_enter Tryz.func54,Tryz.ntmps54
 go_wp2_with (go_at_call 76;refine hc.mono ?_;rintro e w' ⟨rfl,rfl⟩)
 go_loopw [1,24] (fun x y wr=>∃ i:Nat,y = .int .i64 i/\i<=m/\x = .int .i64 (gfold M.loose keep i).1/\MapI Tryz.prog 3 wr w.heap.size i (ivals (gfold M.loose keep i).2)/\Kept (fun _=>False) w wr/\w.heap.size<wr.heap.size) (fun _ y _=>m-(intOf y).toNat)
 case atStart=>exact⟨0,rfl,Nat.zero_le _,by rw[gfold_zero],MapI.made _ _ _,(Kept.refl _ _).alloc _,by show _<(w.heap.push _).size;rw[Array.size_push];omega⟩
 case round =>
  obtain⟨i,rfl,hi,rfl,hmap,hk,hsz⟩:=hrel
  have hrow':=hrow.kept hk (fun _ _=>id)
  by_cases hlt:i<m
  ·obtain⟨g,rfl,hown,hcs⟩:=hcell (by omega)
   obtain⟨p,hp⟩:∃ p,M.loose[i]? = some p:=⟨M.loose[i],List.getElem?_eq_getElem (by omega)⟩
   obtain⟨hp0,hp1⟩:=pcells_get M.loose i p hp
   have q0:=hrow'.cellsAt hp0
   have q1:=hrow'.cellsAt hp1
   have hpk:=hok.loks p (List.mem_of_getElem? hp)
   have hst:=gfold_succ M.loose keep i p hp
   have hgle:=gfold_le M.loose keep i p hp
   have hlo:=hok.lo p.1
   have hpl:=DiskM.loose_le hok p (List.mem_of_getElem? hp)
   have hgk:=gfold_keep M.loose keep i
   have hx:decide (i<m)=true:=decide_eq_true hlt
   have hl:=(hmap.alloc (.cells #[Value.int IntKind.i64 p.fst,Value.int IntKind.i64 ↑p.snd] 89)).look (t:=143) (e:=3) Tryz.underlying3 Tryz.underlying143 (zeroInt _) (a:=p.1) (by omega)
   rw[ivals_get]at hl
   have hcap1:=hok.cap1
   have hp2:(p.2:Int)<=1048576:=by omega
   have hfl:((AM.get M.files p.1).getD []).length<=1048576:=by
    cases hg:AM.get M.files p.1 with
    | none=>simp
    | some b=>have:=DiskM.len_le_total hok hg;have:=hok.room;simp;omega
   have hq:(AM.get (gfold M.loose keep i).2 p.1).getD 0+p.2<=1048576:=by omega
   have HG:Hid ((gfold M.loose keep (i+1)).1=(gfold M.loose keep i).1-(DiskM.stay (gfold M.loose keep i).1 p.2:Nat)/\(gfold M.loose keep (i+1)).2=AM.set (gfold M.loose keep i).2 p.1 ((AM.get (gfold M.loose keep i).2 p.1).getD 0+(p.2-DiskM.stay (gfold M.loose keep i).1 p.2))):=Lib.hid (by rw[hst];exact⟨rfl,rfl⟩)
   have hstore:∀ v:Nat,∃ w',(Instr.mapUpdate 143 (.map (some w.heap.size)) (.int .i64 p.1) (.int .i64 (v:Int))).run Tryz.prog (wr.alloc (.cells #[Value.int IntKind.i64 p.fst,Value.int IntKind.i64 ↑p.snd] 89)) = .ok () w'/\MapI Tryz.prog 3 w' w.heap.size (i+1) (ivals (AM.set (gfold M.loose keep i).2 p.1 v))/\Kept (fun _=>False) w w'/\w.heap.size<w'.heap.size:=by
    intro v
    obtain⟨w',h1,h2,h3,h4⟩:=(hmap.alloc (.cells #[Value.int IntKind.i64 p.fst,Value.int IntKind.i64 ↑p.snd] 89)).store (t:=143) (e:=3) Tryz.underlying3 Tryz.underlying143 (by omega) (a:=p.1) (by omega) (.int .i64 (v:Int))
    rw[ivals_set]at h2
    exact⟨w',h1,h2,(hk.alloc _).then_ h3 (fun y hy he=>by omega),by rw[h4];show _<(wr.heap.push _).size;rw[Array.size_push];omega⟩
   clear hst hgle hlo hpl hfl hp0 hp1 hcs hcell hcap1
   generalize(gfold M.loose keep i).1=kp at *
   generalize(gfold M.loose keep i).2=G at *
   generalize hqe:(AM.get G p.1).getD 0=q at *
   rcases Int.lt_or_le kp 0 with hneg|hpos
   ·have hs0:DiskM.stay kp p.2=0:=DiskM.stay_neg hneg p.2
    obtain⟨w2,hrun,hm2,hk2,hsz2⟩:=hstore (q+p.2)
    rw[hs0]at HG
    have hx2:decide (kp<0)=true:=decide_eq_true hneg
    rw[Int.natCast_add]at hrun
    go_wp2_with fail
    go_roundw
    case rel=>exact⟨i+1,by go_num,hlt,by rw[HG.out.1];first|done|go_num,by rw[HG.out.2];exact hm2,hk2,hsz2⟩
    case measure=>simp[intOf];omega
   ·obtain⟨kn,rfl⟩:=Int.eq_ofNat_of_zero_le hpos
    have hx2:decide ((kn:Int)<0)=false:=by simp
    rcases Nat.lt_or_ge p.2 kn with hmore|hless
    ·have hs0:DiskM.stay (kn:Int) p.2=p.2:=by unfold DiskM.stay;omega
     obtain⟨w2,hrun,hm2,hk2,hsz2⟩:=hstore q
     rw[hs0,Nat.sub_self]at HG
     have hx4:p.2<kn:=hmore
     go_wp2_with fail
     go_roundw
     case rel=>exact⟨i+1,by go_num,hlt,by rw[HG.out.1];first|done|go_num,by rw[HG.out.2];exact hm2,hk2,hsz2⟩
     case measure=>simp[intOf];omega
    ·have hs0:DiskM.stay (kn:Int) p.2=kn:=by unfold DiskM.stay;omega
     obtain⟨w2,hrun,hm2,hk2,hsz2⟩:=hstore (q+(p.2-kn))
     rw[hs0]at HG
     rw[Int.natCast_add,Int.ofNat_sub hless]at hrun
     have hx3:decide (kn<=p.2)=true:=decide_eq_true hless
     have hx4:kn<=p.2:=hless
     go_wp2_with fail
     go_roundw
     case rel=>exact⟨i+1,by go_num,hlt,by rw[HG.out.1];first|done|go_num,by rw[HG.out.2];exact hm2,hk2,hsz2⟩
     case measure=>simp[intOf];omega
  ·have hx:decide (i<m)=false:=by simp;omega
   have him:i=m:=by omega
   have hall:gfold M.loose keep i=M.loose.foldl DiskM.gstep (keep,[]):=by unfold gfold;rw[List.take_of_length_le (by omega)]
   have hG:(gfold M.loose keep i).2=DiskM.gone M.loose keep:=by rw[hall];rfl
   rw[hG]at hmap
   have hgr:=DiskM.gone_rise M.loose keep
   have hgl:=DiskM.gone_le M.loose keep
   have hgs:=DiskM.gone_some M.loose keep
   have hcg:=DiskM.crashed_get hok.rise hgr
   have hcnt:fs.length+(ivals (DiskM.gone M.loose keep)).length<=800000000:=by
    have h1:=h.toDiskRaw.len_eq hok.rise
    have h2:=DiskM.gone_len M.loose keep
    have h3:=hok.count
    have h4:(ivals (DiskM.gone M.loose keep)).length=(DiskM.gone M.loose keep).length:=by simp[ivals,AM.vmap]
    omega
   have hcr:=DiskM.crashed_rise hok.rise (DiskM.gone M.loose keep)
   have hokc:=hok.crash keep
   have hraw:=h.toDiskRaw.low.kept hk (fun _ _=>id)
   obtain⟨w3,hrg,hR,hk3,hs3⟩:=hmap.range (t:=143) (e:=3) Tryz.underlying3 Tryz.underlying143
   have hraw3:=hraw.kept hk3 (fun _ _=>id)
   have hk03:=hk.trans hk3
   generalize hgg:DiskM.gone M.loose keep=G at *
   have hw:=Lib.hid (And.intro hsz hs3)
   clear hcell hrow hrow' hall hG him
   go_wp2_with fail
   go_loopw [] (fun wx=>∃ todo fs2 F,RangeI Tryz.prog 3 wx w.heap.size wr.heap.size i (ivals G) todo/\DiskRaw wx d (fun x=>fp x/\x<w.heap.size) { M with files:=F } mb (.slice a m cap) fs2/\Kept fp w wx/\AM.Rise F/\fs2.length+todo.length<=800000000/\Hid (∀ n,AM.get F n=if(AM.get todo n).isSome=true then AM.get M.files n else AM.get (DiskM.crashed M.files G) n)) (fun wx=>wx.rangeLeft w.heap.size wr.heap.size)
   case atStart =>
    refine⟨ivals G,fs,M.files,hR,hraw3,hk03.mono (fun _ _=>False.elim),hok.rise,hcnt,Lib.hid (fun n=>?_)⟩
    split
    ·rfl
    ·rename_i hn
     rw[hcg n]
     have:AM.get G n=none:=by
      unfold ivals at hn
      rw[AM.get_vmap]at hn
      simpa using hn
     rw[this]
   case round =>
    obtain⟨todo,fs2,F,hr,hraw2,hkx,hFr,hcount,HF⟩:=hrel
    have hwo:=hw.out
    rcases hr.next Tryz.underlying3 0 with⟨rfl,hrun⟩|⟨n,v,w4,hmem,hn,hrun,hr',hlt',hk4,hsz4,hent⟩
    ·have hFe:F=DiskM.crashed M.files G:=AM.ext hFr hcr (fun n=>by rw[HF.out n];simp[AM.get])
     have z1:=hraw2.head.free 1
     have z3:=hraw2.head.free 3
     have z5:=hraw2.head.free 5
     have d1:=hraw2.head.cell (i:=1) rfl
     have d3:=hraw2.head.cell (i:=3) rfl
     have d5:=hraw2.head.cell (i:=5) rfl
     have f1:=((hraw2.noLoose).put 3 (.bool true) { M with files:=F,loose:=[],down:=true } rfl rfl rfl).put 5 (.bool false) { M with files:=F,loose:=[],down:=true,fails:=false } rfl rfl rfl
     have f2:({ M with files:=F,loose:=[],down:=true,fails:=false } : DiskM)=M.crash keep:=by rw[hFe,<- hgg];rfl
     have hfpd:fp d:=h.fpd
     rw[f2]at f1
     have hend:=Lib.hid (And.intro f1 hokc)
     clear f1 f2 hFe
     go_wp2_with fail
     go_ret
     exact⟨rfl,⟨mb,_,fs2,hend.out.1.fpmono (fun x hx=>hx.1),hend.out.2⟩,((hkx.setCell (fun _=>hfpd) _).setCell (fun _=>hfpd) _).setCell (fun _=>hfpd) _⟩
    ·have hrise:=hr.rise Tryz.underlying3
     have hgt:AM.get todo n=some v:=(AM.get_some hrise).2 hmem
     have hgi:AM.get (ivals G) n=some v:=(AM.get_some (hr.owns.rise Tryz.underlying3)).2 (hr.sub _ hmem)
     obtain⟨many,hmany,rfl⟩:∃ q:Nat,AM.get G n=some q/\v = .int .i64 (q:Int):=by
      unfold ivals at hgi
      rw[AM.get_vmap]at hgi
      cases hq:AM.get G n with
      | none=>rw[hq]at hgi;cases hgi
      | some q=>rw[hq]at hgi;exact⟨q,rfl,(Option.some.inj hgi).symm⟩
     have hFn:AM.get F n=AM.get M.files n:=by rw[HF.out n,hgt];rfl
     have hcn:=hcg n
     rw[hmany]at hcn
     have hle:many<=((AM.get M.files n).getD []).length:=by
      have h1:=hgl n
      have h2:=hok.lo n
      rw[hmany]at h1
      simp only[Option.getD_some]at h1
      omega
     have hlen2:((AM.get M.files n).getD []).length<=1048576:=by
      cases hg:AM.get M.files n with
      | none=>simp
      | some b=>have:=DiskM.len_le_total hok hg;have:=hok.room;have:=hok.cap1;simp;omega
     have hraw4:=hraw2.kept hk4 (fun x hx e=>by omega)
     have e0:=hraw4.head.cell (i:=0) rfl
     have hl:=hraw4.map.look (t:=75) (e:=72) Tryz.underlying3 Tryz.underlying75 (zeroBytes w4) hn
     have hrw:=hraw4.rowOf n
     have hapart:∀ n' v' k,n'≠n->AM.get fs2 n'=some v'->v'.ownBlock=some k->((AM.get fs2 n).getD (.slice none 0 0)).ownBlock≠some k:=by
      intro n' v' k hne h1 h2 h3
      cases hg:AM.get fs2 n with
      | none=>rw[hg]at h3;simp[Value.ownBlock]at h3
      | some v0=>rw[hg]at h3;exact hne (hraw4.apart n' n v' v0 k h1 hg h2 h3)
     have hfpn:∀ k,((AM.get fs2 n).getD (.slice none 0 0)).ownBlock=some k->fp k/\k<w.heap.size:=by
      intro k h3
      cases hg:AM.get fs2 n with
      | none=>rw[hg]at h3;simp[Value.ownBlock]at h3
      | some v0=>rw[hg]at h3;exact hraw4.fpf n v0 k hg h3
     have hrw':Row w4 5 1 ((AM.get fs2 n).getD (.slice none 0 0)) (bcells ((AM.get M.files n).getD [])):=by
      have:(AM.get F n).getD []=(AM.get M.files n).getD []:=by rw[hFn]
      rw[<- this];exact hrw
     generalize hv0:(AM.get fs2 n).getD (.slice none 0 0)=v0 at *
     obtain⟨av,mv,capv,rfl,hmv,hmvl,_⟩:=hrw'.form (by omega)
     rw[bcells_len,Nat.mul_one]at hmv
     obtain⟨hcut,hcutrow⟩:=hrw'.head (mv-many) (by omega) ((mv:Int)-(many:Int)) (by omega)
     obtain⟨w5,hst5,hm5,hk5,hs5⟩:=(hraw4.map.drew).store (t:=75) (e:=72) Tryz.underlying3 Tryz.underlying75 (by omega) hn (.slice av (mv-many) capv)
     have hob:∀ x y,(Value.slice av x y).ownBlock=(Value.slice av mv capv).ownBlock:=fun _ _=>by cases av<;>rfl
     have hnew:=(hraw4.kept (S:=fun _=>False) (Kept.refl _ _).drew (fun _ _=>id)).setFile hFr hm5 hk5 (hcutrow.drew) (fun n' v' k h1 h2 h3=>by rw[hob];exact hapart n' v' k h1 h2 h3) (fun k hk'=>hfpn k (by rw[hob]at hk';exact hk'))
     have hwr:IntKind.i64.wrap ((mv:Int)-(many:Int))=(mv:Int)-(many:Int):=IntWalk.i64_in _ (by omega)
     have hcapv:(mv:Int)-(many:Int)<=(capv:Int):=by
      have:mv<=capv:=by
       rcases hrw' with⟨h,_⟩|⟨g,n',cap',rest,hv,_,_,h2,_⟩
       ·cases h;exact Nat.le_refl _
       ·simp only[Value.slice.injEq]at hv;omega
      omega
     have hcnt2:(AM.set fs2 n (.slice av (mv-many) capv)).length+(AM.del todo n).length<=800000000:=by
      have h1:=AM.length_del_some hrise hgt
      have h2:=AM.length_set_le fs2 n (Value.slice av (mv-many) capv)
      omega
     have hle2:many<=mv:=by omega
     have hmv1:mv<=1048576:=by omega
     have HMV:=Lib.hid hmv
     clear hmv
     have HN:=Lib.hid hnew
     have hmbl:fp mb/\mb<w.heap.size:=hraw4.fpm
     have hk5d:Kept (· = mb) w4 w5:=((Kept.refl _ _).drew).trans hk5
     have hk5x:Kept fp w w5:=(hkx.then_ hk4 (fun y hy he=>by omega)).then_ hk5d (fun y hy he=>by rw[he];exact hmbl.1)
     clear hnew
     go_wp2_with fail
     refine wp_region_tail 11 (by kernel_rfl) (by kernel_rfl) ?_
     simp only[List.take_succ_cons,List.take_zero,List.drop_succ_cons,List.drop_zero]
     repeat still_step
     refine wpStill_nil ?_
     go_wp2
     go_roundw
     case rel =>
      refine⟨AM.del todo n,_,_,(hr'.kept (S:=fun x=>x=mb) hk5d (fun e=>by omega) (fun e=>by omega)).1,HN.out,hk5x,AM.rise_set hFr _ _,hcnt2,Lib.hid (fun n'=>?_)⟩
      by_cases e:n'=n
      ·subst e
       rw[AM.get_set_same hFr,AM.get_del_same,hcn]
       simp[DiskM.cut,<- HMV.out]
      ·rw[AM.get_set_other hFr _ e,AM.get_del_other hrise e]
       exact HF.out n'
     case measure=>rw[(hr'.kept (S:=fun x=>x=mb) hk5d (fun e=>by omega) (fun e=>by omega)).2];exact hlt'
end
def DiskTo (d:Nat) (fp:Nat->Prop) (M':DiskM) (w w':World):Prop:=∃ fp',IsDisk w' d fp' M'/\Kept fp w w'/\∀ k,fp' k->fp k\/w.heap.size<=k
def DiskM.new (cap:Int):DiskM:=⟨[],[],cap,false,0,false,0,0⟩
def DiskM.sunk (M:DiskM):DiskM:=M.tick.crash M.keep
def DiskM.sync (M:DiskM):Int × DiskM:=if M.down=true then(61,M)else if M.sinks=true then(61,M.sunk)else(0, { M.tick with loose:=[] })
def DiskM.create (M:DiskM) (n:Int):Int × DiskM:=if M.down=true then(61,M)else if n<0 then(2,M)else if(AM.get M.files n).isSome=true then(62,M)else if 100<=M.files.length then(60,M)else if M.sinks=true then(61,M.sunk)else(0, { M.tick with files:=AM.set M.files n [] })
theorem DiskM.tick_down (M:DiskM):M.tick.down=M.down:=by unfold DiskM.tick;split<;>rfl
theorem DiskM.tick_keep (M:DiskM):M.tick.keep=M.keep:=by unfold DiskM.tick;split<;>rfl
theorem DiskM.tick_files (M:DiskM):M.tick.files=M.files:=by unfold DiskM.tick;split<;>rfl
theorem DiskM.tick_loose (M:DiskM):M.tick.loose=M.loose:=by unfold DiskM.tick;split<;>rfl
theorem DiskM.Ok.noLoose {M:DiskM} (h:M.Ok):({ M with loose:=[] } : DiskM).Ok :=
 ⟨h.rise,h.keys,h.cap0,h.cap1,h.room,fun n=>by show 0<=_;omega,fun p hp=>by simp at hp,h.left1,h.left2,by have:=h.count;show M.files.length+0<=_;omega,h.keepk⟩
theorem DiskM.Ok.create {M:DiskM} (h:M.Ok) (n:Int) (hn:0<=n/\n<=9223372036854775807) (hg:AM.get M.files n=none) (hc:M.files.length+M.loose.length<400000000):({ M with files:=AM.set M.files n [] } : DiskM).Ok:=by
 refine⟨AM.rise_set h.rise _ _,fun p hp=>?_,h.cap0,h.cap1,?_,fun k=>?_,h.loks,h.left1,h.left2,?_,h.keepk⟩
 ·rcases AM.mem_set.1 hp with rfl|⟨hp,_⟩
  ·exact hn
  ·exact h.keys p hp
 ·have:=h.room
  unfold DiskM.total at this ⊢
  rw[AM.sum_set,AM.del_none hg]
  simpa using this
 ·have:=h.lo k
  by_cases e:k=n
  ·subst e
   rw[hg]at this
   show DiskM.looseOf M.loose k<=((AM.get (AM.set M.files k []) k).getD []).length
   rw[AM.get_set_same h.rise]
   exact this
  ·show DiskM.looseOf M.loose k<=((AM.get (AM.set M.files n []) k).getD []).length
   rw[AM.get_set_other h.rise _ e]
   exact this
 ·have:=AM.length_set_le M.files n ([]:List UInt8)
  show(AM.set M.files n []).length+M.loose.length<=_
  omega
section
variable {d : Nat} {fp : Nat → Prop} {M : DiskM}
theorem IsDisk.fpd {w:World} (h:IsDisk w d fp M):fp d:=by obtain⟨mb,lv,fs,h⟩:=h;exact h.fpd
theorem Kept.head {w w':World} (h:Kept (· = d) w w') (hf:fp d):Kept fp w w':=h.mono (fun k _ e=>by rw[e];exact hf)
theorem DiskTo.same {w:World} (h:IsDisk w d fp M):DiskTo d fp M w w:=⟨fp,h,Kept.refl _ _,fun _=>Or.inl⟩
theorem sink_up (w:World) (hd:IsDisk w d fp M) (hdn:M.down=false):Calls Tryz.prog 31 #[.pointer (some ⟨d,0,none⟩)] w fun e w'=>e = .returned (.int .i64 61)/\IsDisk w' d fp (M.crash M.keep)/\Kept fp w w':=by
 have hc:=crash_up w M.keep hd.ok.keepk hd hdn
 obtain⟨mb,lv,fs,h⟩:=hd
 have c7:=h.head.cell (i:=7) rfl
 clear hdn
 go_enter Tryz.func31,Tryz.ntmps31
 go_wp2_with (go_at_call 54;refine hc.mono ?_;rintro e w' ⟨rfl,hd',hk'⟩)
 go_ret
 exact⟨rfl,hd',hk'⟩
theorem sync_any (w:World) (hd:IsDisk w d fp M) (hl:M.Live):Calls Tryz.prog 78 #[.pointer (some ⟨d,0,none⟩)] w fun e w'=>e = .returned (.int .i64 M.sync.1)/\DiskTo d fp M.sync.2 w w':=by
 have hr:=ready_any w hd
 cases hdn:M.down
 ·have h0:M.ready=0:=by simp[DiskM.ready,hdn]
  rw[h0]at hr
  have hs:=sinks_any w hd hl
  cases hsk:M.sinks
  ·have e:M.sync=(0, { M.tick with loose:=[] }):=by simp[DiskM.sync,hdn,hsk]
   rw[e]
   rw[hsk]at hs
   clear e h0 hsk hdn
   go_enter Tryz.func78,Tryz.ntmps78
   have hfd:=hd.fpd
   go_wp2_with (first|(go_at_call 76;refine hr.mono ?_;rintro e w' ⟨rfl,rfl⟩)|(go_at_call 30;refine hs.mono ?_;rintro e w1 ⟨rfl,hd1,hk1⟩;obtain⟨mb,lv,fs,h1⟩:=hd1;have z1:=h1.head.free 1;have c1:=h1.head.cell (i:=1) rfl))
   go_ret
   exact⟨rfl,fp,⟨mb,_,fs,h1.toDiskRaw.noLoose,h1.ok.noLoose⟩,(hk1.head hfd).setCell (fun _=>hfd) _,fun _=>Or.inl⟩
  ·have e:M.sync=(61,M.sunk):=by simp[DiskM.sync,hdn,hsk]
   rw[e]
   rw[hsk]at hs
   have hk0:=DiskM.tick_keep M
   have hd0:=DiskM.tick_down M
   rw[hdn]at hd0
   have HE:Hid (M.tick.crash M.tick.keep=M.sunk):=Lib.hid (by rw[hk0];rfl)
   clear e h0 hsk hdn hk0
   go_enter Tryz.func78,Tryz.ntmps78
   go_wp2_with (first|(go_at_call 76;refine hr.mono ?_;rintro e w' ⟨rfl,rfl⟩)|(go_at_call 30;refine hs.mono ?_;rintro e w1 ⟨rfl,hd1,hk1⟩)|(go_at_call 31;refine(sink_up _ hd1 hd0).mono ?_;rintro e w2 ⟨rfl,hd2,hk2⟩))
   go_ret
   exact⟨rfl,fp,by rw[<- HE.out];exact hd2,(hk1.head hd.fpd).trans hk2,fun _=>Or.inl⟩
 ·have h0:M.ready=61:=by simp[DiskM.ready,hdn]
  have e:M.sync=(61,M):=by simp[DiskM.sync,hdn]
  rw[h0]at hr
  rw[e]
  clear e h0 hdn
  go_enter Tryz.func78,Tryz.ntmps78
  go_wp2_with (go_at_call 76;refine hr.mono ?_;rintro e w' ⟨rfl,rfl⟩)
  go_ret
  exact⟨rfl,DiskTo.same hd⟩
def NewDisk (cap:Int) (w:World) (e:Ending) (w':World):Prop:=∃ d fp,e = .returned (.tuple #[.pointer (some ⟨d,0,none⟩),.int .i64 0])/\IsDisk w' d fp (DiskM.new cap)/\Kept (fun _=>False) w w'/\∀ k,fp k->w.heap.size<=k
theorem new_ok (w:World) (cap:Int) (h0:0<=cap) (h1:cap<=1048576):Calls Tryz.prog 8 #[.int .i64 cap] w (NewDisk cap w):=by
 have x1:decide (cap<0)=false:=by simp;omega
 have x2:decide (1048576<cap)=false:=by simp;omega
 have hmm:=@run_makeMap Tryz.prog
 go_enter Tryz.func8,Tryz.ntmps8
 go_wp2
 refine bodyPost_ret (v:=.tuple #[.pointer (some ⟨w.heap.size+1,0,none⟩),.int .i64 0]) (by simp[results,Tryz.results8,go_sem]) rfl ⟨w.heap.size+1,fun k=>w.heap.size<=k,rfl,?_,?_,fun _=>id⟩
 ·have hz:(w.alloc (.map #[] 0)).heap.size=w.heap.size+1:=by show(w.heap.push _).size=_;rw[Array.size_push]
  have hb:=Blk.new (w.alloc (.map #[] 0)) (DiskM.cells (DiskM.new cap) w.heap.size (.slice none 0 0)) 78
  rw[hz]at hb
  refine⟨w.heap.size,.slice none 0 0,[],⟨hb,(MapI.made w Tryz.prog 3).alloc _,fun _=>rfl,fun n v b h=>by simp[AM.get]at h,fun n n' v v' k h=>by simp[AM.get]at h,Row.nil _ _ _,by show w.heap.size<=w.heap.size+1;omega,Nat.le_refl _,fun k hk=>by simp[Value.ownBlock]at hk,fun n v k h=>by simp[AM.get]at h⟩,?_⟩
  exact⟨AM.rise_nil,fun p hp=>by simp[DiskM.new]at hp,h0,h1,by simpa[DiskM.total,DiskM.new,AM.sum]using h0,fun n=>by simp[DiskM.new,DiskM.looseOf],fun p hp=>by simp[DiskM.new]at hp,by simp[DiskM.new],by simp[DiskM.new],by simp[DiskM.new],by simp[DiskM.new]⟩
 ·exact((Kept.refl _ _).alloc _).alloc _
theorem create_err (w:World) (n:Int) (n0 : -9223372036854775808<=n/\n<=9223372036854775807) (hd:IsDisk w d fp M) (he:M.down=true\/n<0\/(AM.get M.files n).isSome=true\/100<=M.files.length) :
  Calls Tryz.prog 10 #[.pointer (some ⟨d,0,none⟩),.int .i64 n] w fun e w'=>e = .returned (.int .i64 (M.create n).1)/\(M.create n).2=M/\w=w':=by
 have hh:=has_any w n n0 hd
 rcases M.has_cases n with⟨h0,hdn,b,hb⟩|⟨h0,hdn,hb⟩|⟨h0,hdn⟩
 ·rw[h0]at hh
  by_cases hn:n<0
  ·have e:M.create n=(2,M):=by simp[DiskM.create,hdn,hn]
   rw[e]
   have x1:decide (n<0)=true:=decide_eq_true hn
   clear he h0 hdn hb e
   go_enter Tryz.func10,Tryz.ntmps10
   go_wp2_with (go_at_call 29;refine hh.mono ?_;rintro e w' ⟨rfl,rfl⟩)
   go_ret
   exact⟨rfl,trivial,rfl⟩
  ·have e:M.create n=(62,M):=by simp[DiskM.create,hdn,hn,hb]
   rw[e]
   have x1:decide (n<0)=false:=by simpa using hn
   clear he h0 hdn hb e
   go_enter Tryz.func10,Tryz.ntmps10
   go_wp2_with (go_at_call 29;refine hh.mono ?_;rintro e w' ⟨rfl,rfl⟩)
   go_ret
   exact⟨rfl,trivial,rfl⟩
 ·rw[h0]at hh
  by_cases hn:n<0
  ·have e:M.create n=(2,M):=by simp[DiskM.create,hdn,hn]
   rw[e]
   have x1:decide (n<0)=true:=decide_eq_true hn
   clear he h0 hdn hb e
   go_enter Tryz.func10,Tryz.ntmps10
   go_wp2_with (go_at_call 29;refine hh.mono ?_;rintro e w' ⟨rfl,rfl⟩)
   go_ret
   exact⟨rfl,trivial,rfl⟩
  ·have hl:100<=M.files.length:=by
    rcases he with h|h|h|h
    ·rw[hdn]at h;cases h
    ·exact absurd h hn
    ·rw[hb]at h;cases h
    ·exact h
   have e:M.create n=(60,M):=by simp[DiskM.create,hdn,hn,hb,hl]
   rw[e]
   have x1:decide (n<0)=false:=by simpa using hn
   obtain⟨mb,lv,fs,h⟩:=hd
   have c0:=h.head.cell (i:=0) rfl
   have hlen:=h.map.len (t:=75) (e:=72) Tryz.underlying75 3
   have hle:=h.toDiskRaw.len_eq h.ok.rise
   have x2:decide ((100:Int)<=(fs.length:Int))=true:=by simp;omega
   clear he h0 hdn hb e hle
   go_enter Tryz.func10,Tryz.ntmps10
   go_wp2_with (go_at_call 29;refine hh.mono ?_;rintro e w' ⟨rfl,rfl⟩)
   go_ret
   exact⟨rfl,trivial,rfl⟩
 ·have e:M.create n=(61,M):=by simp[DiskM.create,hdn]
  rw[e]
  rw[h0]at hh
  clear he h0 hdn e
  go_enter Tryz.func10,Tryz.ntmps10
  go_wp2_with (go_at_call 29;refine hh.mono ?_;rintro e w' ⟨rfl,rfl⟩)
  go_ret
  exact⟨rfl,trivial,rfl⟩
theorem DiskTo.after {w w1 w2:World} {M':DiskM} (hk:Kept fp w w1) (h:DiskTo d fp M' w1 w2):DiskTo d fp M' w w2:=by
 obtain⟨fp',h1,h2,h3⟩:=h
 exact⟨fp',h1,hk.trans h2,fun k hk'=>(h3 k hk').imp id (fun q=>Nat.le_trans hk.size q)⟩
theorem DiskRaw.low_row {w:World} {mb:Nat} {lv:Value} {fs:List (Int × Value)} (h:DiskRaw w d fp M mb lv fs) {n:Int} {v:Value} {k:Nat} (h1:AM.get fs n=some v) (h2:v.ownBlock=some k):k<w.heap.size:=by
 have hs:=h.keys n
 rw[h1]at hs
 obtain⟨b,hb⟩:=Option.isSome_iff_exists.1 hs.symm
 exact(h.rows n v b h1 hb).lt h2
theorem DiskAt.newFile {w:World} {mb:Nat} {lv:Value} {fs:List (Int × Value)} (h:DiskAt w d fp M mb lv fs) (n:Int) (n0:0<=n/\n<=9223372036854775807) (hg:AM.get M.files n=none) (hc:M.files.length+M.loose.length<400000000) :
  ∃ w2,(Instr.mapUpdate 75 (.map (some mb)) (.int .i64 n) (.slice (some ⟨w.heap.size,0,none⟩) 0 0)).run Tryz.prog (w.alloc (.cells #[] 5)) = .ok () w2/\DiskTo d fp { M with files:=AM.set M.files n [] } w w2:=by
 have hle:=h.toDiskRaw.len_eq h.ok.rise
 have hml:maxLen=9223372036854775807:=rfl
 obtain⟨w2,hst,hm2,hk2,hs2⟩:=(h.map.alloc (.cells #[] 5)).store (t:=75) (e:=72) Tryz.underlying3 Tryz.underlying75 (by omega) (a:=n) (by omega) (.slice (some ⟨w.heap.size,0,none⟩) 0 0)
 refine⟨w2,hst,fun k=>fp k\/w.heap.size<=k,⟨mb,lv,AM.set fs n (.slice (some ⟨w.heap.size,0,none⟩) 0 0),?_,h.ok.create n n0 hg hc⟩,?_,fun k=>id⟩
 ·have hr:=(h.toDiskRaw.kept (S:=fun _=>False) ((Kept.refl _ _).alloc (.cells #[] 5)) (fun _ _=>id)).fpmono (fp':=fun k=>fp k\/w.heap.size<=k) (fun x=>Or.inl)
  have hrow:Row (w.alloc (.cells #[] 5)) 5 1 (.slice (some ⟨w.heap.size,0,none⟩) 0 0) (bcells []):=Or.inr ⟨w.heap.size,0,0,[],rfl,rfl,Blk.new w [] 5,Nat.le_refl _,by simp,by omega⟩
  exact hr.setFile h.ok.rise hm2 hk2 hrow (fun n' v' k _ h1 h2 h3=>by
   have:=h.toDiskRaw.low_row h1 h2
   simp[Value.ownBlock]at h3
   omega) (fun k hk=>by simp[Value.ownBlock]at hk;exact Or.inr (by omega))
 ·exact((Kept.refl _ _).alloc _).then_ hk2 (fun i hi e=>by rw[e];exact h.fpm)
theorem create_sinks (w:World) (n:Int) (n0:0<=n/\n<=9223372036854775807) (hd:IsDisk w d fp M) (hl:M.Live) (hdn:M.down=false) (hg:AM.get M.files n=none) (hlen:M.files.length<100) (hsk:M.sinks=true) :
  Calls Tryz.prog 10 #[.pointer (some ⟨d,0,none⟩),.int .i64 n] w fun e w'=>e = .returned (.int .i64 61)/\IsDisk w' d fp M.sunk/\Kept fp w w':=by
 have hh:=has_any w n (by omega) hd
 have h0:M.has n=4:=by simp[DiskM.has,hdn,hg]
 rw[h0]at hh
 have hs:=sinks_any w hd hl
 rw[hsk]at hs
 have hfd:=hd.fpd
 obtain⟨mb,lv,fs,h⟩:=hd
 have c0:=h.head.cell (i:=0) rfl
 have hml:=h.map.len (t:=75) (e:=72) Tryz.underlying75 3
 have hle:=h.toDiskRaw.len_eq h.ok.rise
 have x1:decide (n<0)=false:=by simp;omega
 have x2:decide ((100:Int)<=(fs.length:Int))=false:=by simp;omega
 have hk0:=DiskM.tick_keep M
 have hd0:=DiskM.tick_down M
 rw[hdn]at hd0
 have HE:Hid (M.tick.crash M.tick.keep=M.sunk):=Lib.hid (by rw[hk0];rfl)
 clear h0 hdn hg hle hlen hsk hk0
 go_enter Tryz.func10,Tryz.ntmps10
 go_wp2_with (first|(go_at_call 29;refine hh.mono ?_;rintro e w' ⟨rfl,rfl⟩)|(go_at_call 30;refine hs.mono ?_;rintro e w1 ⟨rfl,hd1,hk1⟩)|(go_at_call 31;refine(sink_up _ hd1 hd0).mono ?_;rintro e w2 ⟨rfl,hd2,hk2⟩))
 go_ret
 exact⟨rfl,by rw[<- HE.out];exact hd2,(hk1.head hfd).trans hk2⟩
theorem create_ok (w:World) (n:Int) (n0:0<=n/\n<=9223372036854775807) (hd:IsDisk w d fp M) (hl:M.Live) (hdn:M.down=false) (hg:AM.get M.files n=none) (hlen:M.files.length<100) (hcnt:M.files.length+M.loose.length<400000000) (hsk:M.sinks=false) :
  Calls Tryz.prog 10 #[.pointer (some ⟨d,0,none⟩),.int .i64 n] w fun e w'=>e = .returned (.int .i64 0)/\DiskTo d fp { M.tick with files:=AM.set M.files n [] } w w':=by
 have hh:=has_any w n (by omega) hd
 have h0:M.has n=4:=by simp[DiskM.has,hdn,hg]
 rw[h0]at hh
 have hs:=sinks_any w hd hl
 rw[hsk]at hs
 have hfd:=hd.fpd
 obtain⟨mb,lv,fs,h⟩:=hd
 have c0:=h.head.cell (i:=0) rfl
 have hml:=h.map.len (t:=75) (e:=72) Tryz.underlying75 3
 have hle:=h.toDiskRaw.len_eq h.ok.rise
 have x1:decide (n<0)=false:=by simp;omega
 have x2:decide ((100:Int)<=(fs.length:Int))=false:=by simp;omega
 have HG:=Lib.hid hg
 clear h0 hdn hle hsk hg
 go_enter Tryz.func10,Tryz.ntmps10
 go_wp2_with (first|(go_at_call 29;refine hh.mono ?_;rintro e w' ⟨rfl,rfl⟩)|(go_at_call 30;refine hs.mono ?_;rintro e w1 ⟨rfl,hd1,hk1⟩;obtain⟨mb1,lv1,fs1,h1⟩:=hd1;have c01:=h1.head.cell (i:=0) rfl;obtain⟨w2,hst,hto⟩:=h1.newFile n n0 (by rw[DiskM.tick_files];exact HG.out) (by rw[DiskM.tick_files,DiskM.tick_loose];exact hcnt)))
 go_ret
 have hto2:=DiskTo.after (hk1.head hfd) hto
 rw[DiskM.tick_files]at hto2
 exact⟨rfl,hto2⟩
end
def DiskM.appended (M:DiskM) (n:Int) (s:List UInt8):DiskM:={ M with files:=AM.set M.files n (((AM.get M.files n).getD [])++s),loose:=M.loose++[(n,s.length)] }
def DiskM.append (M:DiskM) (n:Int) (s:List UInt8):Int × DiskM:=if M.has n≠0 then(M.has n,M)else if M.cap-M.total<s.length then(60,M)else if M.sinks=true then(61,(M.appended n s).sunk)else(0,(M.appended n s).tick)
theorem DiskM.Ok.appended {M:DiskM} (h:M.Ok) {n:Int} {b s:List UInt8} (hg:AM.get M.files n=some b) (hr:((M.total+s.length:Nat):Int)<=M.cap) (hc:M.files.length+M.loose.length<300000000):(M.appended n s).Ok:=by
 have hn:=h.keys (n,b) ((AM.get_some h.rise).1 hg)
 have e:(AM.get M.files n).getD []=b:=by rw[hg];rfl
 unfold DiskM.appended
 rw[e]
 refine⟨AM.rise_set h.rise _ _,fun p hp=>?_,h.cap0,h.cap1,?_,fun k=>?_,fun p hp=>?_,h.left1,h.left2,?_,h.keepk⟩
 ·rcases AM.mem_set.1 hp with rfl|⟨hp,_⟩
  ·exact hn
  ·exact h.keys p hp
 ·unfold DiskM.total at hr ⊢
  rw[AM.sum_del List.length h.rise hg]at hr
  show((AM.sum List.length (AM.set M.files n (b++s)):Nat):Int)<=M.cap
  rw[AM.sum_set,List.length_append]
  omega
 ·have:=h.lo k
  show DiskM.looseOf (M.loose++[(n,s.length)]) k<=((AM.get (AM.set M.files n (b++s)) k).getD []).length
  rw[looseOf_append]
  by_cases e:k=n
  ·subst e
   rw[hg]at this
   rw[AM.get_set_same h.rise]
   simp[DiskM.looseOf]at this ⊢
   omega
  ·rw[AM.get_set_other h.rise _ e]
   have e2:¬ n=k:=fun q=>e q.symm
   simp only[DiskM.looseOf,if_neg e2]
   exact this
 ·rcases List.mem_append.1 hp with hp|hp
  ·exact h.loks p hp
  ·simp at hp;subst hp;exact hn
 ·have:=AM.length_set_le M.files n (b++s)
  show(AM.set M.files n (b++s)).length+(M.loose++[(n,s.length)]).length<=_
  rw[List.length_append]
  simp only[List.length_cons,List.length_nil]
  omega
section
variable {w w' : World} {d mb : Nat} {fp : Nat → Prop} {M : DiskM} {lv : Value} {fs : List (Int × Value)}
theorem Row.blk {e:TypeId} {size k:Nat} {v:Value} {xs:List Value} (h:Row w e size v xs) (hk:v.ownBlock=some k):∃ c,Blk w k c e:=by
 rcases h with⟨rfl,_⟩|⟨g,n,cap,rest,rfl,_,hb,_⟩
 ·simp[Value.ownBlock]at hk
 ·simp[Value.ownBlock]at hk
  subst hk
  exact⟨_,hb⟩
theorem DiskRaw.refile (h:DiskRaw w d fp M mb lv fs) (hF:AM.Rise M.files) {a:Int} {v v':Value} {b b':List UInt8} {n:Nat} (hv:AM.get fs a=some v) (hb:AM.get M.files a=some b) (hm:MapI Tryz.prog 3 w' mb n (AM.set fs a v'))
  (hk:Kept (fun x=>x=mb\/v.ownBlock=some x) w w') (hrow:Row w' 5 1 v' (bcells b')) (hown:∀ k,v'.ownBlock=some k->v.ownBlock=some k\/w.heap.size<=k) :
  DiskRaw w' d (fun k=>fp k\/w.heap.size<=k) { M with files:=AM.set M.files a b' } mb lv (AM.set fs a v'):=by
 have hr:=h.map.rise Tryz.underlying3
 have hrv:=h.rows a v b hv hb
 have hne:∀ n' v' k,AM.get fs n'=some v'->v'.ownBlock=some k->k≠mb:=by
  intro n' v' k h1 h2
  have hs:=h.keys n'
  rw[h1]at hs
  obtain⟨b',hb'⟩:=Option.isSome_iff_exists.1 hs.symm
  exact h.map.ne_row (h.rows n' v' b' h1 hb') h2
 refine⟨h.head.kept hk ?_,hm.tight,fun n'=>?_,fun n' v1 b1 h1 h2=>?_,fun n1 n2 v1 v2 k h1 h2 h3 h4=>?_,h.loose.kept hk ?_,Or.inl h.fpd,Or.inl h.fpm,fun k hk'=>Or.inl (h.fpl k hk'),fun n' v1 k h1 h2=>?_⟩
 ·rintro (e|e)
  ·exact h.map.ne_blk h.head e.symm
  ·exact h.row_ne hv e rfl
 ·show _=(AM.get (AM.set M.files a b') n').isSome
  by_cases e:n'=a
  ·subst e;rw[AM.get_set_same hr,AM.get_set_same hF];rfl
  ·rw[AM.get_set_other hr _ e,AM.get_set_other hF _ e];exact h.keys n'
 ·replace h2:AM.get (AM.set M.files a b') n'=some b1:=h2
  by_cases e:n'=a
  ·subst e
   rw[AM.get_set_same hr]at h1
   rw[AM.get_set_same hF]at h2
   cases h1;cases h2
   exact hrow
  ·rw[AM.get_set_other hr _ e]at h1
   rw[AM.get_set_other hF _ e]at h2
   refine(h.rows n' v1 b1 h1 h2).kept hk (fun k hk'=>?_)
   rintro (q|q)
   ·exact hne n' v1 k h1 hk' q
   ·exact e (h.apart n' a v1 v k h1 hv hk' q)
 ·by_cases e1:n1=a
  ·by_cases e2:n2=a
   ·rw[e1,e2]
   ·subst e1
    rw[AM.get_set_same hr]at h1
    cases h1
    rw[AM.get_set_other hr _ e2]at h2
    rcases hown k h3 with q|q
    ·exact h.apart n1 n2 v v2 k hv h2 q h4
    ·have hlt:k<w.heap.size:=by
      have hs:=h.keys n2
      rw[h2]at hs
      obtain⟨b2,hb2⟩:=Option.isSome_iff_exists.1 hs.symm
      exact(h.rows n2 v2 b2 h2 hb2).lt h4
     omega
  ·by_cases e2:n2=a
   ·subst e2
    rw[AM.get_set_same hr]at h2
    cases h2
    rw[AM.get_set_other hr _ e1]at h1
    rcases hown k h4 with q|q
    ·exact h.apart n1 n2 v1 v k h1 hv h3 q
    ·have hlt:k<w.heap.size:=by
      have hs:=h.keys n1
      rw[h1]at hs
      obtain⟨b2,hb2⟩:=Option.isSome_iff_exists.1 hs.symm
      exact(h.rows n1 v1 b2 h1 hb2).lt h3
     omega
   ·rw[AM.get_set_other hr _ e1]at h1
    rw[AM.get_set_other hr _ e2]at h2
    exact h.apart n1 n2 v1 v2 k h1 h2 h3 h4
 ·intro k hk'
  rintro (q|q)
  ·exact h.map.ne_row h.loose hk' q
  ·obtain⟨c,hc⟩:=hrv.blk q
   exact h.loose.ne_blk hk' hc (by decide) rfl
 ·by_cases e:n'=a
  ·subst e
   rw[AM.get_set_same hr]at h1
   cases h1
   exact(hown k h2).imp (fun q=>h.fpf n' v k hv q) id
  ·rw[AM.get_set_other hr _ e]at h1
   exact Or.inl (h.fpf n' v1 k h1 h2)
theorem DiskRaw.reloose (h:DiskRaw w d fp M mb lv fs) {lv':Value} {l':List (Int × Nat)} (hk:Kept (fun x=>lv.ownBlock=some x) w w') (hrow:Row w' 89 2 lv' (pcells l')) (hown:∀ k,lv'.ownBlock=some k->lv.ownBlock=some k\/w.heap.size<=k) :
  DiskRaw (w'.setCell ⟨d,1,none⟩ lv') d (fun k=>fp k\/w.heap.size<=k) { M with loose:=l' } mb lv' fs:=by
 have hhead:Blk w' d (M.cells mb lv) 78:=h.head.kept hk (fun e=>h.loose.ne_blk e h.head (by decide) rfl)
 have hmap:=h.map.kept hk (fun e=>h.map.ne_row h.loose e rfl)
 have hrows:∀ n v b,AM.get fs n=some v->AM.get M.files n=some b->Row w' 5 1 v (bcells b):=fun n v b h1 h2=>(h.rows n v b h1 h2).kept hk (fun k hk' e=>by
  obtain⟨c,hc⟩:=h.loose.blk e
  exact(h.rows n v b h1 h2).ne_blk hk' hc (by decide) rfl)
 refine⟨hhead.set 1 _,hmap.other (fun e=>hmap.ne_blk hhead e.symm) _,h.keys,fun n x b h1 h2=>(hrows n x b h1 h2).other (fun e=>(hrows n x b h1 h2).ne_blk e hhead (by decide) rfl) _,h.apart,?_,Or.inl h.fpd,Or.inl h.fpm,fun k hk'=>(hown k hk').imp (h.fpl k) id,fun n v k h1 h2=>Or.inl (h.fpf n v k h1 h2)⟩
 exact hrow.other (fun e=>hrow.ne_blk e hhead (by decide) rfl) _
end
theorem info_byte:(Tryz.prog.info? 5).map (fun i=>(i.zero,i.size,i.bytes))=some (some (.int .u8 0),1,1):=by kernel_rfl
theorem info_piece:(Tryz.prog.info? 89).map (fun i=>(i.zero,i.size,i.bytes))=some (some (.agg #[.int .i64 0,.int .i64 0]),2,16):=by kernel_rfl
theorem strCells_bcells (s:ByteArray):Lib.strCells s=bcells s.data.toList:=rfl
section
variable {w w' : World} {d mb : Nat} {fp : Nat → Prop} {M : DiskM} {lv : Value} {fs : List (Int × Value)}
theorem DiskAt.appendBytes (h:DiskAt w d fp M mb lv fs) {n:Int} {v:Value} {b:List UInt8} (hv:AM.get fs n=some v) (hb:AM.get M.files n=some b) (s:ByteArray) (hs:s.size<=70000000000000) :
  ∃ v' w1 w2,(Builtin.append_ #[72,9] 72 #[v,.string s]).run Tryz.prog w.drew = .ok v' w1/\(Instr.mapUpdate 75 (.map (some mb)) (.int .i64 n) v').run Tryz.prog w1 = .ok () w2 /\
   DiskRaw w2 d (fun k=>fp k\/w.heap.size<=k) { M with files:=AM.set M.files n (b++s.data.toList) } mb lv (AM.set fs n v')/\Kept fp w w2/\w1.cell? ⟨d,0,none⟩=some (.map (some mb)):=by
 obtain⟨i,hi,hz,hsz,hby⟩:=info_parts info_byte
 have hrow:=h.rows n v b hv hb
 have hbl:=DiskM.len_le_total h.ok hb
 have hroom:=h.ok.room
 have hc1:=h.ok.cap1
 have hn:=h.ok.keys (n,b) ((AM.get_some h.ok.rise).1 hb)
 have hle:=h.toDiskRaw.len_eq h.ok.rise
 have hcnt:=h.ok.count
 have hml:maxLen=9223372036854775807:=rfl
 obtain⟨v',w1,hr1,hrow1,hk1,ho1⟩:=hrow.drew.append_str (P:=Tryz.prog) (t:=72) (u:=9) Tryz.underlying72 Tryz.underlying9 hi hz hsz hby s (by rw[bcells_len];omega) 72
 rw[strCells_bcells]at hrow1
 have hrow1':Row w1 5 1 v' (bcells (b++s.data.toList)):=by
  have e:bcells (b++s.data.toList)=bcells b++bcells s.data.toList:=by simp[bcells]
  rw[e];exact hrow1
 have hk1':Kept (fun x=>v.ownBlock=some x) w w1:=((Kept.refl _ _).drew).trans hk1
 have hm1:=h.map.kept hk1' (fun e=>h.map.ne_row hrow e rfl)
 obtain⟨w2,hst,hm2,hk2,hs2⟩:=hm1.store (t:=75) (e:=72) Tryz.underlying3 Tryz.underlying75 (by omega) (a:=n) (by omega) v'
 have hk02:Kept (fun x=>x=mb\/v.ownBlock=some x) w w2:=(hk1'.mono (fun _ _=>Or.inr)).trans (hk2.mono (fun _ _=>Or.inl))
 have hmb:=h.map.lt
 have hrow2:Row w2 5 1 v' (bcells (b++s.data.toList)):=hrow1'.kept hk2 (fun k hk' e=>hm1.ne_row hrow1' hk' e)
 refine⟨v',w1,w2,hr1,hst,h.toDiskRaw.refile h.ok.rise hv hb hm2 hk02 hrow2 (fun k hk'=>ho1 k hk'),hk02.mono ?_,(h.head.kept hk1' (fun e=>h.row_ne hv e rfl)).cell (i:=0) rfl⟩
 rintro k _ (e|e)
 ·rw[e];exact h.fpm
 ·exact h.fpf n v k hv e
theorem pcells_snoc (l:List (Int × Nat)) (p:Int × Nat):pcells (l++[p])=pcells l++[.int .i64 p.1,.int .i64 (p.2:Int)]:=by simp[pcells]
theorem DiskRaw.addPiece (h:DiskRaw w d fp M mb lv fs) (n:Int) (len:Nat) (hc:M.loose.length<400000000) :
  ∃ lv' w1,(Builtin.append_ #[76,76] 76 #[lv,.slice (some ⟨w.heap.size,0,none⟩) 1 1]).run Tryz.prog (w.alloc (.cells #[.int .i64 n,.int .i64 (len:Int)] 89)) = .ok lv' w1 /\
   DiskRaw (w1.setCell ⟨d,1,none⟩ lv') d (fun k=>fp k\/w.heap.size<=k) { M with loose:=M.loose++[(n,len)] } mb lv' fs/\Kept fp w w1/\w1.cell? ⟨d,1,none⟩=some lv/\w1.frozen? ⟨d,1,none⟩=false:=by
 obtain⟨i,hi,hz,hsz,hby⟩:=info_parts info_piece
 have hb:Blk (w.alloc (.cells #[.int .i64 n,.int .i64 (len:Int)] 89)) w.heap.size [.int .i64 n,.int .i64 (len:Int)] 89:=Blk.new w [.int .i64 n,.int .i64 (len:Int)] 89
 obtain⟨lv',w1,hr1,hrow1,hk1,ho1⟩:=(h.loose.alloc (.cells #[.int .i64 n,.int .i64 (len:Int)] 89)).append_cells (P:=Tryz.prog) (t:=76) Tryz.underlying76 hi hz hsz rfl (by omega) (by omega) ⟨w.heap.size,0,none⟩ 1 1 [.int .i64 n,.int .i64 (len:Int)] rfl (fun j u hu=>by rw[addr0_add];exact hb.cell hu) (fun u hu=>by simp at hu;rcases hu with rfl|rfl<;>rfl) (by omega) (by rw[pcells_len];simp;omega) 76
 rw[<- pcells_snoc M.loose (n,len)]at hrow1
 have hk2:Kept (fun x=>lv.ownBlock=some x) w w1:=((Kept.refl _ _).alloc _).trans hk1
 have hhead:=h.head.kept hk2 (fun e=>h.loose.ne_blk e h.head (by decide) rfl)
 refine⟨lv',w1,hr1,h.reloose hk2 hrow1 (fun k hk'=>(ho1 k hk').imp id (fun q=>?_)),hk2.mono (fun k _ e=>h.fpl k e),hhead.cell (i:=1) rfl,hhead.free 1⟩
 have:(w.alloc (.cells #[.int .i64 n,.int .i64 (len:Int)] 89)).heap.size=w.heap.size+1:=by show(w.heap.push _).size=_;rw[Array.size_push]
 omega
end
end Go.Proofs.YtdmedbhbefdnkaaGreatDoor
