/- Bld2 -/
import Derived.Lib.AppendZeros
import Derived.Test.YtdmedbhbefdnkaaGreatDoorUKeyringPlay21
set_option linter.unusedVariables false
set_option linter.unusedSimpArgs false
set_option maxRecDepth 100000
set_option maxHeartbeats 16000000
namespace Go.Proofs.YtdmedbhbefdnkaaGreatDoor
open Go.RowKit
def BldR (w:World) (b:Nat) (v:Value) (l:List UInt8):Prop:=(∃ p,(p = .pointer none\/p = .pointer (some ⟨b,0,none⟩))/\Blk w b [p,v] 156)/\Row w 5 1 v (bytes8 l)
theorem BldR.fresh (w:World):BldR (w.alloc (.cells #[.pointer none,.slice none 0 0] 156)) w.heap.size (.slice none 0 0) [] :=
 ⟨⟨_,Or.inl rfl,Blk.new w [.pointer none,.slice none 0 0] 156⟩,Row.nil _ _ _⟩
section
variable {w w' : World} {b : Nat} {v : Value} {l : List UInt8}
theorem BldR.kept {S:Nat->Prop} (h:BldR w b v l) (hk:Kept S w w') (h1:¬ S b) (h2:∀ k,v.ownBlock=some k->¬ S k):BldR w' b v l:=by
 obtain⟨⟨p,hp,hb⟩,hr⟩:=h
 exact⟨⟨p,hp,hb.kept hk h1⟩,hr.kept hk h2⟩
theorem BldR.same (h:BldR w b v l) (hk:Kept (fun _=>False) w w'):BldR w' b v l:=h.kept hk id (fun _ _=>id)
theorem BldR.lt (h:BldR w b v l):b<w.heap.size:=by
 obtain⟨⟨p,_,hb⟩,_⟩:=h
 exact hb.lt
theorem BldR.ne (h:BldR w b v l):v.ownBlock≠some b:=by
 obtain⟨⟨p,_,hb⟩,hr⟩:=h
 intro e
 exact hr.ne_blk e hb (by decide) rfl
theorem copyCheck_r (h:BldR w b v l) :
  Calls Tryz.prog 133 #[.pointer (some ⟨b,0,none⟩)] w fun e w'=>e = .returned (.tuple #[])/\Blk w' b [.pointer (some ⟨b,0,none⟩),v] 156/\Kept (· = b) w w':=by
 obtain⟨⟨p,hp,hb⟩,hr⟩:=h
 rcases hp with rfl|rfl
 ·refine(copyCheck_fresh b w (hb.cell (i:=0) rfl) ?_ (hb.free 0)).mono ?_
  ·unfold Blk at hb
   simp[World.shape?,hb]
  ·rintro e w' ⟨rfl,rfl⟩
   exact⟨rfl,hb.set 0 _,(Kept.refl (· = b) w).setCell (p:=⟨b,0,none⟩) (fun _=>rfl) _⟩
 ·refine(copyCheck_used b w (hb.cell (i:=0) rfl)).mono ?_
  rintro e w' ⟨rfl,rfl⟩
  exact⟨rfl,hb,Kept.refl _ _⟩
theorem writeString_r (s:ByteArray) (h:BldR w b v l) (hlen:l.length+s.size<=1000000000) :
  Calls Tryz.prog 110 #[.pointer (some ⟨b,0,none⟩),.string s] w fun e w'=>∃ v',e = .returned (.tuple #[.int .i64 s.size,.nilIface])/\BldR w' b v' (l++s.data.toList)/\Kept (fun k=>k=b\/v.ownBlock=some k) w w'/\∀ k,v'.ownBlock=some k->v.ownBlock=some k\/w.heap.size<=k:=by
 obtain⟨i0,hi,hz0,hz1,hz2⟩:=info_parts info_u8
 have hne:=h.ne
 have hrow:=h.2
 go_enter Tryz.func110,Tryz.ntmps110
 go_wp2_with (go_at_call 133;refine(copyCheck_r h).mono ?_)
 rintro e w1 ⟨rfl,hb1,hk1⟩
 have hrow1:=hrow.kept hk1 (fun k hk e=>hne (by rw[hk,e]))
 obtain⟨v',w2,hr,hrow2,hk2,ho2⟩:=hrow1.append_str (P:=Tryz.prog) Tryz.underlying72 Tryz.underlying9 hi hz0 hz1 hz2 s (by rw[bytes8_len];omega) 72
 have hb2:=hb1.kept hk2 (by intro e;exact hne e)
 obtain⟨ao,n',cap,rfl,_⟩:=hrow2.form (by omega)
 have c1:=hb1.cell (i:=1) rfl
 have d1:=hb2.cell (i:=1) rfl
 have f1:=hb2.free 1
 go_wp2_with (at_builtin;refine Lib.wpList_append_run _ rfl _ _ 72 9 rfl _ _ rfl rfl _ _ hr ?_)
 go_ret2
 have hne2:(Value.slice ao n' cap).ownBlock≠some b:=fun e=>by
  rcases ho2 b e with q|q
  ·exact hne q
  ·have:=hb1.lt;omega
 refine⟨_,rfl,⟨⟨_,Or.inr rfl,hb2.set 1 _⟩,?_⟩,?_,fun k hk=>?_⟩
 ·rw[bytes8_append,<- strCells_bytes8]
  exact hrow2.other hne2 _
 ·exact((hk1.mono (fun _ _ e=>Or.inl e)).then_ hk2 (fun i _ e=>Or.inr e)).setCell (fun _=>Or.inl rfl) _
 ·rcases ho2 k hk with q|q
  ·exact Or.inl q
  ·right;have:=hk1.size;omega
theorem kept_freeze (w:World) (g n:Nat):Kept (· = g) w (w.freeze ⟨g,0,none⟩ n):=by
 unfold World.freeze
 split
 ·exact Kept.refl _ _
 ·refine⟨rfl,rfl,rfl,by simp,fun k hk hn=>?_⟩
  simp only[Array.getElem?_modify]
  rw[if_neg (fun e=>hn e.symm)]
theorem string_r (h:BldR w b v l) (h0:l≠[]) (hl:l.length<=1000000000) :
  Calls Tryz.prog 111 #[.pointer (some ⟨b,0,none⟩)] w fun e w'=>e = .returned (.string ⟨l.toArray⟩)/\Kept (fun k=>v.ownBlock=some k) w w':=by
 obtain⟨⟨p,_,hb⟩,hr⟩:=h
 have hl0:l.length≠0:=by simpa using h0
 rcases hr with⟨rfl,hx⟩|⟨g,n,cap,rest,rfl,h1,hg,h2,h3,h4⟩
 ·have:=congrArg List.length hx
  rw[bytes8_len]at this
  exact absurd this hl0
 ·rw[bytes8_len,Nat.mul_one]at h1
  obtain rfl:n=l.length:=by omega
  have c1:w.drew.cell? ⟨b,1,none⟩=some (.slice (some ⟨g,0,none⟩) l.length cap):=(hb.drew).cell (i:=1) rfl
  have hSD:(Builtin.unsafeSliceData_ #[72] 176 #[.slice (some ⟨g,0,none⟩) l.length cap]).run Tryz.prog w.drew = .ok (.pointer (some ⟨g,0,none⟩)) w.drew :=
   Lib.run_unsafeSliceData_row _ _ _ _ _ _ (by omega)
  have hUS:(Builtin.unsafeString_ #[176,3] 9 #[.pointer (some ⟨g,0,none⟩),.int .i64 l.length]).run Tryz.prog w.drew = .ok (.string ⟨l.toArray⟩) (w.drew.freeze ⟨g,0,none⟩ l.length):=by
   refine Lib.run_unsafeString_row w.drew 176 3 9 5 Tryz.underlying176 (by kernel_rfl) g ((bytes8 l++rest).toArray.size) (by have hg':w.drew.heap[g]? = some (.cells (bytes8 l++rest).toArray 5 (0,0)):=hg;simp[World.shape?,hg']) l h0 (by rw[List.size_toArray,List.length_append,bytes8_len];omega) (by omega) ?_
   intro j x hx
   rw[addr0_add]
   refine(hg.drew).cell ?_
   have hj:=(List.getElem?_eq_some_iff.1 hx).1
   rw[List.getElem?_append_left (by rw[bytes8_len];exact hj),bytes8_at l j hj]
   obtain⟨_,rfl⟩:=List.getElem?_eq_some_iff.1 hx
   rfl
  have kf:=(((Kept.refl (fun _=>False) w).drew).mono (fun _ _=>False.elim):Kept (· = g) w w.drew).trans (kept_freeze w.drew g l.length)
  have KF:=Lib.hid (kf.mono (S':=fun k=>(Value.slice (some ⟨g,0,none⟩) l.length cap).ownBlock=some k) (fun k _ e=>by simp[Value.ownBlock,e]))
  clear kf
  go_enter Tryz.func111,Tryz.ntmps111
  go_wp2
  go_region
  all_goals (go_wp2;go_ret;exact⟨rfl,KF.out⟩)
end
end Go.Proofs.YtdmedbhbefdnkaaGreatDoor
