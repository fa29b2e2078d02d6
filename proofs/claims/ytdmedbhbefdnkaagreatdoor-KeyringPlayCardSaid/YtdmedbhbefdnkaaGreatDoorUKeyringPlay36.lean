/- Files ApFiles ViewI -/
import Derived.Test.YtdmedbhbefdnkaaGreatDoorUKeyringPlay31
import Derived.Test.YtdmedbhbefdnkaaGreatDoorUKeyringPlay01
set_option linter.unusedVariables false
set_option linter.unusedSimpArgs false
set_option maxRecDepth 100000
set_option maxHeartbeats 16000000
namespace Go.Proofs.YtdmedbhbefdnkaaGreatDoor
open Go.RowKit Go.Maps Go.Sort Go.Shelf
theorem sortsA (m : Nat) : AnyZI.SortsIn Tryz.prog Tryz.sortedA_ren Fence.wide m :=
  ⟨fun blk off cap ss W hH hblk hsz => callsIn_wide.2 (AnyM.slices_Sort_int Tryz.sortA blk off cap ss W hH hblk hsz),
   fun p cap W => callsIn_wide.2 (AnyM.slices_Sort_int_none Tryz.sortA p cap W)⟩
def icells (l:List Int):List Value:=l.map fun n=>.int .i64 n
theorem intKeys_rawD (m:List (Int × Value)):intKeys (rawD m)=m.map (·.1):=by
 unfold rawD
 simp[intKeys,Function.comp_def]
 intro a b _
 rfl
def FilesTo (w:World) (M:DiskM) (e:Ending) (w':World):Prop:=∃ v,e = .returned v/\Row w' 3 1 v (icells (M.files.map (·.1)))/\Kept (fun _=>False) w w'/\∀ k,v.ownBlock=some k->w.heap.size<=k
theorem Row.of_owns {w:World} {base size n:Nat} {e:TypeId} {v:Value} {xs:List Value} (h:w.ownsRow base e size v n xs):Row w e size v xs/\∀ k,v.ownBlock=some k->base<=k:=by
 obtain⟨hl,⟨rfl,rfl⟩|⟨g,cap,cur,rfl,hb,hg,h1,h2,h3,h4⟩⟩:=h
 ·exact⟨Or.inl ⟨rfl,List.eq_nil_of_length_eq_zero (by omega)⟩,fun k hk=>by simp[Value.ownBlock]at hk⟩
 ·refine⟨Or.inr ⟨g,n,cap,cur.toList.drop (n*size),rfl,hl,?_,h1,?_,h2⟩,fun k hk=>by simp[Value.ownBlock]at hk;omega⟩
  ·unfold Blk
   rw[<- h4,List.take_append_drop]
   exact hg
  ·rw[<- h4,<- List.length_append,List.take_append_drop,Array.length_toList]
   omega
theorem sort_rise {l ss:List Int} (h:l.Pairwise (· < ·)) (hp:ss.Perm l):ss.mergeSort (fun x y=>decide (x<=y))=l:=by
 have h1:(ss.mergeSort (fun x y=>decide (x<=y))).Pairwise (fun x y=>decide (x<=y)=true):=List.pairwise_mergeSort (fun a b c q1 q2=>by simp at *;omega) (fun a b=>by simp;omega) ss
 have h2:(ss.mergeSort (fun x y=>decide (x<=y))).Perm l:=(List.mergeSort_perm ss _).trans hp
 refine h2.eq_of_pairwise (le:=fun x y=>decide (x<=y)=true) (fun a b _ _ q1 q2=>by simp at *;omega) h1 (h.imp (fun {a b} q=>by simp;omega))
theorem files_keys {w:World} {d mb:Nat} {fp:Nat->Prop} {M:DiskM} {lv:Value} {fs:List (Int × Value)} (h:DiskRaw w d fp M mb lv fs) (hF:AM.Rise M.files):fs.map (·.1)=M.files.map (·.1):=by
 have hr:=h.map.rise Tryz.underlying3
 have e:AM.vmap (fun _=>()) fs=AM.vmap (fun _=>()) M.files:=by
  refine AM.ext (AM.rise_vmap hr _) (AM.rise_vmap hF _) (fun n=>?_)
  rw[AM.get_vmap,AM.get_vmap]
  have:=h.keys n
  cases h1:AM.get fs n<;>cases h2:AM.get M.files n<;>simp_all
 have:=congrArg (List.map (·.1)) e
 simpa[AM.vmap,Function.comp_def]using this
theorem files_any {d:Nat} {fp:Nat->Prop} {M:DiskM} (w:World) (hd:IsDisk w d fp M):Calls Tryz.prog 50 #[.pointer (some ⟨d,0,none⟩)] w (FilesTo w M):=by
 obtain⟨mb,lv,fs,h⟩:=hd
 have c0:=h.head.cell (i:=0) rfl
 have hown:w.ownsMap Tryz.prog 3 rawR mb fs.length (rawD fs):=h.map
 have hks:=files_keys h.toDiskRaw h.ok.rise
 have hle:=h.toDiskRaw.len_eq h.ok.rise
 have hcnt:=h.ok.count
 have hsz:Maps.size (rawD fs)<=400000000:=by rw[size_rawD];omega
 have hmx:maxLen=9223372036854775807:=rfl
 have hrise:=h.map.rise Tryz.underlying3
 refine(callsIn_wide (n:=6)).1 ?_
 have hbl:=hown.lt
 have hseq:SeqGives Fence.wide 2 Tryz.prog 119 #[.pointer (some ⟨w.heap.size,0,none⟩)] encZ (fun ss=>ss.Perm (intKeys (rawD fs))) (Maps.size (rawD fs)) (w.alloc (.cells #[.map (some mb)] 75)) :=
  AnyZI.keys_gives (ρ:=Tryz.keysA_ren) { Tryz.keysA with } Fence.wide _ trivial rfl (by omega) w.heap.size mb fs.length (rawD fs) _ (by simp) (by simp) (by
   obtain⟨es,clock,hb,Ft,hs,hD⟩:=hown
   exact⟨es,clock,(Below.heap_alloc _ _ mb hbl).trans hb,Ft,hs,hD⟩)
 have cK:∀ mb W,CallsIn Fence.wide 5 Tryz.prog 91 #[.map mb] W fun e w'=>e = .returned (.func (.func 119) #[] #[.pointer (some ⟨W.heap.size,0,none⟩)])/\w'=W.alloc (.cells #[.map mb] 75):=fun mb W=>AnyZI.keys_in Tryz.keysA Fence.wide 5 trivial rfl mb W
 have cS:=AnyZI.sorted_in Tryz.sortedA Fence.wide 5 trivial trivial trivial trivial rfl (by omega) (sortsA _) (enters_of Tryz.func118 (by kernel_rfl) rfl) 119 #[.pointer (some ⟨w.heap.size,0,none⟩)] trivial (enters_of Tryz.func119 (by kernel_rfl) rfl) _ _ (by omega) (by omega) _ hseq
 change CallsIn _ _ Tryz.prog 90 _ _ _ at cS
 have cN:CallsIn Fence.wide 5 Tryz.prog 77 #[.pointer (some ⟨d,0,none⟩)] w fun e w'=>e = .returned (.bool false)/\w=w':=callsIn_wide.2 (disk_none_some _ _ _ c0)
 have hfK:Fence.wide.fn 91:=trivial
 have hfS:Fence.wide.fn 90:=trivial
 have hfN:Fence.wide.fn 77:=trivial
 have HK:=Lib.hid (And.intro hks hrise)
 clear hks hle hcnt hrise
 refine callsIn_of_wp Tryz.func50 rfl trivial ?_ rfl
 simp only[Tryz.ntmps50,List.size_toArray,List.length_cons,List.length_nil,Nat.reduceAdd,Nat.reduceSub,Array.replicate_succ,Array.replicate_zero,List.push_toArray,List.append_toArray,List.nil_append,List.cons_append]
 gi_wp2_with (first
  | (gi_at_call 77;refine cN.mono ?_;rintro e w' ⟨rfl,rfl⟩)
  | (gi_at_call 91;refine(cK _ _).mono ?_;rintro e w' ⟨rfl,rfl⟩)
  | (gi_at_call 90;refine cS.mono ?_;rintro e w' ⟨v,ss,rfl,hS,hrow,hnil,hb⟩))
 go_ret
 rw[intKeys_rawD]at hS
 rw[sort_rise (by have:=HK.out.2;unfold AM.Rise at this;rwa[List.pairwise_map]) hS,HK.out.1]at hrow
 obtain⟨hr1,hr2⟩:=Row.of_owns hrow
 have hz:w.heap.size<=(w.alloc (.cells #[.map (some mb)] 75)).heap.size:=by show _<=(w.heap.push _).size;rw[Array.size_push];omega
 exact⟨v,rfl,hr1,Kept.of_below (((Below.refl _ w).alloc (Nat.le_refl _) _).trans (hb.mono hz)) |>.mono (fun _ _=>id),fun k hk=>Nat.le_trans hz (hr2 k hk)⟩
end Go.Proofs.YtdmedbhbefdnkaaGreatDoor
namespace Go.Proofs.YtdmedbhbefdnkaaGreatDoor
open Go.RowKit
theorem Apart.files {B:Nat->Prop} {d:Nat} {M:DiskM} {w:World} (h:Apart B d M w):Calls Tryz.prog 50 #[.pointer (some ⟨d,0,none⟩)] w (FilesTo w M):=by
 obtain⟨_,_,fp,h1,_⟩:=h
 exact files_any w h1
theorem free_ap {B:Nat->Prop} {d:Nat} {M:DiskM} {w:World} (h:Apart B d M w):Calls Tryz.prog 35 #[.pointer (some ⟨d,0,none⟩)] w fun e w'=>e = .returned (.int .i64 (M.cap-M.total))/\Kept (fun _=>False) w w':=by
 obtain⟨_,_,fp,h1,_⟩:=h
 exact free_any w h1
section
variable {w w' : World}
theorem view_int {a:Option Addr} {n c:Nat} {l:List Int} (h:View w 1 (.slice a n c) (icells l)) {i:Nat} {p:Int} (hp:l[i]? = some p):∃ g off,a=some ⟨g,off,none⟩/\w.cell? ⟨g,off+i,none⟩=some (.int .i64 p):=by
 obtain⟨_,_,_,ev,hn,_,_,_,hcv⟩:=h
 cases ev
 have hi:=(List.getElem?_eq_some_iff.1 hp).1
 have e:(icells l).length=l.length:=by simp[icells]
 rw[e]at hn
 obtain⟨g,off,rfl,_,hc⟩:=hcv (by omega)
 exact⟨g,off,rfl,hc i _ (by unfold icells;rw[List.getElem?_map,hp];rfl)⟩
end
end Go.Proofs.YtdmedbhbefdnkaaGreatDoor
