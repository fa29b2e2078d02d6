/- Ring1 -/
import Derived.Test.YtdmedbhbefdnkaaGreatDoorUKeyringPlay41
import Derived.Test.YtdmedbhbefdnkaaGreatDoorUKeyringPlay33
set_option linter.unusedVariables false
set_option linter.unusedSimpArgs false
set_option maxRecDepth 100000
set_option maxHeartbeats 16000000
namespace Go.Proofs.YtdmedbhbefdnkaaGreatDoor
open Go.RowKit
abbrev RecS (wa w':World) (hb:Nat) (size:Int) (root:By):Prop:=w'.cell? ⟨hb,0,none⟩=some (.int .i64 size)/\w'.rangeAt hb 1 (bytes8 root)/\Kept (fun _=>False) wa w'
theorem recS_next {wa w1 w2:World} {hb:Nat} {size:Int} {root:By} (h:RecS wa w1 hb size root) (hl:hb<wa.heap.size) (k:Kept (fun _=>False) w1 w2):RecS wa w2 hb size root :=
 ⟨k.cell h.1 id,rangeAt_kept h.2.1 k (Nat.lt_of_lt_of_le hl h.2.2.size) id,h.2.2.trans k⟩
theorem head_blk (w:World) (size:Int) (root:By):Blk (w.alloc (.cells (headC size root).toArray 32)) w.heap.size (headC size root) 32:=Blk.new w _ _
theorem head_range {w:World} {b:Nat} {size:Int} {root:By} {t:TypeId} (h:Blk w b (headC size root) t):w.cell? ⟨b,0,none⟩=some (.int .i64 size)/\w.rangeAt b 1 (bytes8 root):=by
 refine⟨h.cell (i:=0) rfl,fun j u hu=>h.cell ?_⟩
 rw[Nat.add_comm,List.getElem?_cons_succ]
 exact hu
theorem record_any (w:World) (size:Nat) (root:By) (hz:size<=4096) (hr:root.length=32) :
  Calls Tryz.prog 97 #[headV (size:Int) root] w fun e w'=>e = .returned (.string ⟨(recordF (size,root)).toArray⟩)/\Kept (fun _=>False) w w':=by
 have HN:=Lib.hid (fun w'=>num_any w' size (U64n.small (by omega)))
 have HH:=Lib.hid (fun w'=>hash_any w' root hr)
 have hlen:=numL_len (U64n.small (n:=size) (by omega))
 have hfin:(⟨(numL size).toArray⟩:ByteArray)++⟨root.toArray⟩=⟨(recordF (size,root)).toArray⟩:=bstr_cat _ _
 refine Calls.mono (R:=fun e w'=>e = .returned (.string (⟨(numL size).toArray⟩++⟨root.toArray⟩))/\Kept (fun _=>False) w w') ?_ (fun e w' q=>⟨by rw[q.1,hfin],q.2⟩)
 clear hfin
 generalize numL size=N at *
 have x1:(9223372036854775807<N.length+32)=False:=eq_false (by omega)
 have u1:=wrap_u64 (n:=size) (U64n.small (by omega))
 obtain⟨W,hW⟩:∃ W:World,W=w.alloc (.cells (headC (size:Int) root).toArray 32):=⟨_,rfl⟩
 have b0:Blk W w.heap.size (headC (size:Int) root) 32:=by rw[hW];exact head_blk w _ _
 have kW:Kept (fun _=>False) w W:=by rw[hW];exact(Kept.refl _ _).alloc _
 have l0:=b0.lt
 have S0:RecS W W.drew w.heap.size (size:Int) root:=⟨(head_range b0.drew).1,(head_range b0.drew).2,(Kept.refl _ _).drew⟩
 have ia:(Tryz.prog.info? 30).map (·.size)=some (bytes8 root).length:=by rw[bytes8_len,hr];exact info_h32
 have hu:=Tryz.underlying30
 go_enter Tryz.func97,Tryz.ntmps97
 go_wp2_with fail
 change Code.wp _ _ _ _ (w.alloc (.cells (headC (size:Int) root).toArray 32))
 rw[<- hW]
 clear hW
 go_region_held3 (fun w'=>w'.cell? ⟨w.heap.size,0,none⟩=some (.int .i64 (size:Int))/\w'.rangeAt w.heap.size 1 (bytes8 root)/\Kept (fun _=>False) W w') (first|exact S0|exact recS_next (by assumption) l0 (by assumption)) (first|(go_at_call 123;with_reducible refine(HN.out _).mono ?_;rintro e w3 ⟨rfl,hk3⟩)|(go_at_call 102;with_reducible refine(HH.out _).mono ?_;rintro e w3 ⟨rfl,hk3⟩))
 rename_i hh
 go_wp2_with fail
 go_ret
 exact⟨rfl,kW.trans hh.2.2⟩
end Go.Proofs.YtdmedbhbefdnkaaGreatDoor
