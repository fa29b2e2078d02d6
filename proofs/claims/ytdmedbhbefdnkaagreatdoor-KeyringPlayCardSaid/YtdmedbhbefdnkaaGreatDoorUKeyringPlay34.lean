/- Trees4 -/
import Derived.Laws.EntriesVeiled
import Derived.Test.YtdmedbhbefdnkaaGreatDoorUKeyringPlay28
set_option linter.unusedVariables false
set_option linter.unusedSimpArgs false
set_option maxRecDepth 100000
set_option maxHeartbeats 16000000
namespace Go.Proofs.YtdmedbhbefdnkaaGreatDoor
open Go.RowKit
theorem root_any (w:World) (v:Value) (L:List By) (hv:View w 32 v (hcells L)) (h32:∀ x∈L,x.length=32) (hL:L.length<=1000000) (ht:Tab w) :
  Calls Tryz.prog 105 #[v] w fun e w'=>e = .returned (hashV (rootF L))/\Kept (fun _=>False) w w':=by
 have hmf:∀ (fn:Fn) (first cap:Array Value) (w:World),(Instr.makeFunc fn first cap).run Tryz.prog w = .ok (.func fn first cap) w:=fun _ _ _ _=>rfl
 have hv0:=hv
 obtain⟨a,n,cap,rfl,h1,h2,h3,h4,h5⟩:=hv
 rw[hcells_len h32]at h1
 have hn:n=L.length:=by omega
 have hl:=rootF_len h32
 by_cases h0:n=0
 ·subst h0
  have hnil:L=[]:=List.eq_nil_of_length_eq_zero hn.symm
  have hroot:rootF L=shaF []:=by rw[hnil];rfl
  rw[hroot]at hl ⊢
  have b1:=Blk.new (w.alloc (.cells #[.slice a 0 cap] 59)) (zeros 32) 30
  rw[World.size_alloc]at b1
  have k:Kept (fun _=>False) w ((w.alloc (.cells #[.slice a 0 cap] 59)).alloc (.cells (zeros 32).toArray 30)):=((Kept.refl _ _).alloc _).alloc _
  have hsum:=sum_any _ ⟨#[]⟩ (by show 0<=1000000;omega) (ht.same k)
  have hsum2:Calls Tryz.prog 100 _ _ (fun e w5=>e = .returned (.agg (bytes8 (shaF [])).toArray)/\Hid (Blk w5 (w.heap.size+1) (zeros 32) 30/\Kept (fun _=>False) w w5)):=hsum.mono (fun e w5 q=>⟨q.1,Lib.hid ⟨b1.kept q.2 id,k.trans q.2⟩⟩)
  have HC:=Lib.hid hsum2
  generalize shaF []=R at *
  have HI:=Lib.hid (show(Tryz.prog.info? 30).map (·.size)=some (bytes8 R).length by rw[bytes8_len,hl];exact info_h32)
  have HR:=Lib.hid hl
  clear h1 h2 h3 h4 h5 hn b1 k hsum hsum2 hl ht h32 hL hroot hnil hv0
  go_enter Tryz.func105,Tryz.ntmps105
  go_wp2_with (first|(go_at_call 100;refine HC.out.mono ?_;rintro e w5 ⟨rfl,HB⟩)|(refine wpList_store_mid rfl 30 _ _ rfl (w.heap.size+1) 0 (bytes8 R).toArray rfl rfl ?hth ?hi ?h1 ?_))
  case hth=>exact(hash_stored HB.out.1 (zeros_len 32) HR.out).1
  case hi=>exact info_hash HR.out
  case h1=>exact all_oneCell_toArray (fun y hy=>u8_oneCell y hy)
  have hst:=hash_stored HB.out.1 (zeros_len 32) HR.out
  refine bodyPost_ret (hst.2.result rfl rfl Tryz.underlying30 rfl HI.out) rfl ⟨rfl,?_⟩
  exact HB.out.2.then_ (kept_setCells _ _ _ _) (fun i hi e=>by omega)
 ·obtain⟨g,off,rfl,hg,hc⟩:=h5 (by omega)
  have x1:((n:Int)==0)=false:=by simp;omega
  have b0:=((Blk.new w [.slice (some ⟨g,off,none⟩) n cap] 59).alloc (.cells (zeros 32).toArray 30)).alloc (.cells #[rootFn w.heap.size (w.heap.size+1+1)] 173)
  have b1:=Blk.new (w.alloc (.cells #[.slice (some ⟨g,off,none⟩) n cap] 59)) (zeros 32) 30
  rw[World.size_alloc]at b1
  have b1:=b1.alloc (.cells #[rootFn w.heap.size (w.heap.size+1+1)] 173)
  have b2:=Blk.new ((w.alloc (.cells #[.slice (some ⟨g,off,none⟩) n cap] 59)).alloc (.cells (zeros 32).toArray 30)) [rootFn w.heap.size (w.heap.size+1+1)] 173
  rw[World.size_alloc,World.size_alloc]at b2
  have k:Kept (fun _=>False) w (((w.alloc (.cells #[.slice (some ⟨g,off,none⟩) n cap] 59)).alloc (.cells (zeros 32).toArray 30)).alloc (.cells #[rootFn w.heap.size (w.heap.size+1+1)] 173)) :=
   (((Kept.refl _ _).alloc _).alloc _).alloc _
  have hLv:Leaves _ w.heap.size (w.heap.size+1+1) g off n cap L:=⟨b0,b2,Nat.lt_of_lt_of_le hg k.size,rangeAt_kept hc k hg id,hn,h2,h3,h32,hL,ht.same k⟩
  have hroot:rootF L=treeF ((L.drop 0).take (n-0)):=by
   unfold rootF
   rw[if_neg (by omega),List.drop_zero,Nat.sub_zero,List.take_of_length_le (by omega)]
  have hcall:=rootIn_any n _ _ _ g off n cap L 0 n hLv (by omega) (by omega) (by omega)
  rw[<- hroot]at hcall
  have hcall2:Calls Tryz.prog 130 _ _ (fun e w5=>e = .returned (hashV (rootF L))/\Hid (Blk w5 (w.heap.size+1) (zeros 32) 30/\Kept (fun _=>False) w w5)):=hcall.mono (fun e w5 q=>⟨q.1,Lib.hid ⟨b1.kept q.2 id,k.trans q.2⟩⟩)
  have HC:=Lib.hid hcall2
  generalize rootF L=R at *
  have HI:=Lib.hid (show(Tryz.prog.info? 30).map (·.size)=some (bytes8 R).length by rw[bytes8_len,hl];exact info_h32)
  have HR:=Lib.hid hl
  clear h1 h2 h3 h4 h5 hn b0 b1 b2 k hLv hroot hcall hcall2 hl hc hg ht h32 hL h0
  go_enter Tryz.func105,Tryz.ntmps105
  go_wp2_with (first|(go_at_call 130;refine HC.out.mono ?_;rintro e w5 ⟨rfl,HB⟩)|(refine wpList_store_mid rfl 30 _ _ rfl (w.heap.size+1) 0 (bytes8 R).toArray rfl rfl ?hth ?hi ?h1 ?_))
  case hth=>exact(hash_stored HB.out.1 (zeros_len 32) HR.out).1
  case hi=>exact info_hash HR.out
  case h1=>exact all_oneCell_toArray (fun y hy=>u8_oneCell y hy)
  have hst:=hash_stored HB.out.1 (zeros_len 32) HR.out
  refine bodyPost_ret (hst.2.result rfl rfl Tryz.underlying30 rfl HI.out) rfl ⟨rfl,?_⟩
  exact HB.out.2.then_ (kept_setCells _ _ _ _) (fun i hi e=>by omega)
end Go.Proofs.YtdmedbhbefdnkaaGreatDoor
