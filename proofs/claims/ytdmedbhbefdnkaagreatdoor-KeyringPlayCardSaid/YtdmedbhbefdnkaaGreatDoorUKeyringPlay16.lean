/- Disk1 Disk2 Disk3 -/
import Derived.Test.YtdmedbhbefdnkaaGreatDoorUKeyringPlay13
import Derived.Test.YtdmedbhbefdnkaaGreatDoorUKeyringPlay07
set_option linter.unusedVariables false
set_option linter.unusedSimpArgs false
set_option maxRecDepth 100000
set_option maxHeartbeats 16000000
namespace Go.Proofs.YtdmedbhbefdnkaaGreatDoor
open Go.RowKit
def bcells (l:List UInt8):List Value:=l.map fun b=>.int .u8 b.toNat
def pcells (l:List (Int × Nat)):List Value:=l.flatMap fun p=>[.int .i64 p.1,.int .i64 (p.2:Int)]
theorem bcells_len (l:List UInt8):(bcells l).length=l.length:=by simp[bcells]
theorem pcells_len (l:List (Int × Nat)):(pcells l).length=l.length*2:=by
 induction l with
 | nil=>rfl
 | cons a r ih=>simp only[pcells,List.flatMap_cons,List.length_append,List.length_cons,List.length_nil]at *;omega
theorem pcells_get (l:List (Int × Nat)) (i:Nat) (p:Int × Nat) (h:l[i]? = some p):(pcells l)[i*2]? = some (.int .i64 p.1)/\(pcells l)[i*2+1]? = some (.int .i64 (p.2:Int)):=by
 induction l generalizing i with
 | nil=>simp at h
 | cons a r ih =>
  have e:pcells (a::r)=[.int .i64 a.1,.int .i64 (a.2:Int)]++pcells r:=by simp[pcells]
  rw[e]
  cases i with
  | zero=>simp at h;subst h;simp
  | succ i =>
   have:=ih i (by simpa using h)
   rw[List.getElem?_append_right (by simp;omega),List.getElem?_append_right (by simp;omega)]
   rw[show(i+1)*2-[Value.int .i64 a.1,Value.int .i64 (a.2:Int)].length=i*2 by simp;omega,show(i+1)*2+1-[Value.int .i64 a.1,Value.int .i64 (a.2:Int)].length=i*2+1 by simp;omega]
   exact this
structure DiskRaw (w:World) (d:Nat) (fp:Nat->Prop) (M:DiskM) (mb:Nat) (lv:Value) (fs:List (Int × Value)):Prop where
 head:Blk w d [.map (some mb),lv,.int .i64 M.cap,.bool M.down,.int .i64 M.starts,.bool M.fails,.int .i64 M.left,.int .i64 M.keep] 78
 map:MapI Tryz.prog 3 w mb fs.length fs
 keys:∀ n,(AM.get fs n).isSome=(AM.get M.files n).isSome
 rows:∀ n v b,AM.get fs n=some v->AM.get M.files n=some b->Row w 5 1 v (bcells b)
 apart:∀ n n' v v' k,AM.get fs n=some v->AM.get fs n'=some v'->v.ownBlock=some k->v'.ownBlock=some k->n=n'
 loose:Row w 89 2 lv (pcells M.loose)
 fpd:fp d
 fpm:fp mb
 fpl:∀ k,lv.ownBlock=some k->fp k
 fpf:∀ n v k,AM.get fs n=some v->v.ownBlock=some k->fp k
structure DiskAt (w:World) (d:Nat) (fp:Nat->Prop) (M:DiskM) (mb:Nat) (lv:Value) (fs:List (Int × Value)):Prop extends DiskRaw w d fp M mb lv fs where
 ok:M.Ok
def IsDisk (w:World) (d:Nat) (fp:Nat->Prop) (M:DiskM):Prop:=∃ mb lv fs,DiskAt w d fp M mb lv fs
section
variable {w w' : World} {d mb : Nat} {fp S : Nat → Prop} {M : DiskM} {lv : Value} {fs : List (Int × Value)}
theorem DiskRaw.kept (h:DiskRaw w d fp M mb lv fs) (hk:Kept S w w') (hS:∀ x,fp x->¬ S x):DiskRaw w' d fp M mb lv fs :=
 ⟨h.head.kept hk (hS _ h.fpd),h.map.kept hk (hS _ h.fpm),h.keys,fun n v b h1 h2=>(h.rows n v b h1 h2).kept hk (fun k hv=>hS _ (h.fpf n v k h1 hv)),h.apart,h.loose.kept hk (fun k hv=>hS _ (h.fpl k hv)),h.fpd,h.fpm,h.fpl,h.fpf⟩
theorem DiskAt.kept (h:DiskAt w d fp M mb lv fs) (hk:Kept S w w') (hS:∀ x,fp x->¬ S x):DiskAt w' d fp M mb lv fs:=⟨h.toDiskRaw.kept hk hS,h.ok⟩
theorem IsDisk.kept (h:IsDisk w d fp M) (hk:Kept S w w') (hS:∀ x,fp x->¬ S x):IsDisk w' d fp M:=by
 obtain⟨mb,lv,fs,h⟩:=h;exact⟨mb,lv,fs,h.kept hk hS⟩
theorem IsDisk.drew (h:IsDisk w d fp M):IsDisk w.drew d fp M:=h.kept (S:=fun _=>False) (Kept.refl _ _).drew (fun _ _=>id)
theorem IsDisk.ok (h:IsDisk w d fp M):M.Ok:=by obtain⟨mb,lv,fs,h⟩:=h;exact h.ok
theorem DiskRaw.get_some (h:DiskRaw w d fp M mb lv fs) {n:Int} {b:List UInt8} (hg:AM.get M.files n=some b):∃ v,AM.get fs n=some v:=by
 have:=h.keys n
 rw[hg]at this
 exact Option.isSome_iff_exists.1 this
theorem DiskRaw.get_none (h:DiskRaw w d fp M mb lv fs) {n:Int} (hg:AM.get M.files n=none):AM.get fs n=none:=by
 have:=h.keys n
 rw[hg]at this
 simpa using this
end
def DiskM.ready (M:DiskM):Int:=if M.down=true then 61 else 0
def DiskM.has (M:DiskM) (n:Int):Int:=if M.down=true then 61 else if(AM.get M.files n).isSome=true then 0 else 4
theorem disk_none_some (w:World) (d mb:Nat) (h:w.cell? ⟨d,0,none⟩=some (.map (some mb))):Calls Tryz.prog 77 #[.pointer (some ⟨d,0,none⟩)] w fun e w'=>e = .returned (.bool false)/\w=w':=by
 have hm:=fun w=>run_eql_map_nil (P:=Tryz.prog) w 75 3 72 (some mb) Tryz.underlying75
 go_enter Tryz.func77,Tryz.ntmps77
 go_wp2
 go_ret
 exact⟨rfl,rfl⟩
section
variable {d : Nat} {fp : Nat → Prop} {M : DiskM}
theorem ready_any (w:World) (hd:IsDisk w d fp M):Calls Tryz.prog 76 #[.pointer (some ⟨d,0,none⟩)] w fun e w'=>e = .returned (.int .i64 M.ready)/\w=w':=by
 obtain⟨mb,lv,fs,h⟩:=hd
 have c0:=h.head.cell (i:=0) rfl
 have c3:=h.head.cell (i:=3) rfl
 cases hdn:M.down
 ·rw[hdn]at c3
  have hr:M.ready=0:=by simp[DiskM.ready,hdn]
  rw[hr];clear hr hdn
  go_enter Tryz.func76,Tryz.ntmps76
  go_wp2_with (go_at_call 77;refine(disk_none_some _ _ _ c0).mono ?_;rintro e w' ⟨rfl,rfl⟩)
  go_ret
  exact⟨rfl,rfl⟩
 ·rw[hdn]at c3
  have hr:M.ready=61:=by simp[DiskM.ready,hdn]
  rw[hr];clear hr hdn
  go_enter Tryz.func76,Tryz.ntmps76
  go_wp2_with (go_at_call 77;refine(disk_none_some _ _ _ c0).mono ?_;rintro e w' ⟨rfl,rfl⟩)
  go_ret
  exact⟨rfl,rfl⟩
theorem zeroBytes (w:World):(zeroValue 72).run Tryz.prog w = .ok (.slice none 0 0) w:=by kernel_rfl
theorem has_any (w:World) (n:Int) (n0 : -9223372036854775808<=n/\n<=9223372036854775807) (hd:IsDisk w d fp M):Calls Tryz.prog 29 #[.pointer (some ⟨d,0,none⟩),.int .i64 n] w fun e w'=>e = .returned (.int .i64 (M.has n))/\w=w':=by
 have hd':=hd
 obtain⟨mb,lv,fs,h⟩:=hd
 have c0:=h.head.cell (i:=0) rfl
 have hl:=h.map.look_ok (t:=75) (e:=72) Tryz.underlying3 Tryz.underlying75 (zeroBytes w) n0
 rw[h.keys n]at hl
 cases hdn:M.down
 ·have hr:M.ready=0:=by simp[DiskM.ready,hdn]
  cases hg:(AM.get M.files n).isSome
  ·have hh:M.has n=4:=by simp[DiskM.has,hdn,hg]
   rw[hg]at hl
   rw[hh];clear hh hdn hg
   go_enter Tryz.func29,Tryz.ntmps29
   go_wp2_with (go_at_call 76;refine(ready_any _ hd').mono ?_;rw[hr];rintro e w' ⟨rfl,rfl⟩)
   go_ret
   exact⟨rfl,rfl⟩
  ·have hh:M.has n=0:=by simp[DiskM.has,hdn,hg]
   rw[hg]at hl
   rw[hh];clear hh hdn hg
   go_enter Tryz.func29,Tryz.ntmps29
   go_wp2_with (go_at_call 76;refine(ready_any _ hd').mono ?_;rw[hr];rintro e w' ⟨rfl,rfl⟩)
   go_ret
   exact⟨rfl,rfl⟩
 ·have hr:M.ready=61:=by simp[DiskM.ready,hdn]
  have hh:M.has n=61:=by simp[DiskM.has,hdn]
  rw[hh];clear hh hdn
  go_enter Tryz.func29,Tryz.ntmps29
  go_wp2_with (go_at_call 76;refine(ready_any _ hd').mono ?_;rw[hr];rintro e w' ⟨rfl,rfl⟩)
  go_ret
  exact⟨rfl,rfl⟩
end
def DiskM.cells (M:DiskM) (mb:Nat) (lv:Value):List Value:=[.map (some mb),lv,.int .i64 M.cap,.bool M.down,.int .i64 M.starts,.bool M.fails,.int .i64 M.left,.int .i64 M.keep]
section
variable {w : World} {d mb : Nat} {fp : Nat → Prop} {M : DiskM} {lv : Value} {fs : List (Int × Value)}
theorem DiskRaw.row_ne (h:DiskRaw w d fp M mb lv fs) {n:Int} {v:Value} {k:Nat} (hg:AM.get fs n=some v) (hk:v.ownBlock=some k):k≠d:=by
 have hs:=h.keys n
 rw[hg]at hs
 obtain⟨b,hb⟩:=Option.isSome_iff_exists.1 hs.symm
 exact(h.rows n v b hg hb).ne_blk hk h.head (by decide)
theorem DiskRaw.put (h:DiskRaw w d fp M mb lv fs) (i:Nat) (v:Value) (M':DiskM) (hf:M'.files=M.files) (hl:M'.loose=M.loose) (hc:(M.cells mb lv).set i v=M'.cells mb lv) :
  DiskRaw (w.setCell ⟨d,i,none⟩ v) d fp M' mb lv fs:=by
 refine⟨?_,h.map.other (fun e=>h.map.ne_blk h.head e.symm) _,fun n=>by rw[hf];exact h.keys n,fun n x b h1 h2=>?_,h.apart,?_,h.fpd,h.fpm,h.fpl,h.fpf⟩
 ·have:=h.head.set i v
  unfold DiskM.cells at hc
  rw[hc]at this
  exact this
 ·rw[hf]at h2
  exact(h.rows n x b h1 h2).other (fun e=>h.row_ne h1 e rfl) v
 ·rw[hl]
  exact h.loose.other (fun e=>h.loose.ne_blk e h.head (by decide) rfl) v
theorem DiskAt.put (h:DiskAt w d fp M mb lv fs) (i:Nat) (v:Value) (M':DiskM) (hf:M'.files=M.files) (hl:M'.loose=M.loose) (hok:M'.Ok) (hc:(M.cells mb lv).set i v=M'.cells mb lv) :
  DiskAt (w.setCell ⟨d,i,none⟩ v) d fp M' mb lv fs:=⟨h.toDiskRaw.put i v M' hf hl hc,hok⟩
theorem kept_cell (w:World) (d i:Nat) (v:Value):Kept (· = d) w (w.setCell ⟨d,i,none⟩ v):=Kept.setCell (S:=fun x=>x=d) (Kept.refl _ _) (p:=⟨d,i,none⟩) (fun _=>by rfl) v
end
theorem DiskM.Ok.tick {M:DiskM} (h:M.Ok) (hl:M.Live):M.tick.Ok:=by
 unfold DiskM.tick
 split
 ·rename_i hf
  have:=hl hf
  exact⟨h.rise,h.keys,h.cap0,h.cap1,h.room,h.lo,h.loks,by have:=h.left1;show M.left-1<=_;omega,by show -1<=M.left-1;omega,h.count,h.keepk⟩
 ·exact h
section
variable {d : Nat} {fp : Nat → Prop} {M : DiskM}
theorem sinks_any (w:World) (hd:IsDisk w d fp M) (hlive:M.Live):Calls Tryz.prog 30 #[.pointer (some ⟨d,0,none⟩)] w fun e w'=>e = .returned (.bool M.sinks)/\IsDisk w' d fp M.tick/\Kept (· = d) w w':=by
 have hd':=hd
 obtain⟨mb,lv,fs,h⟩:=hd
 have c5:=h.head.cell (i:=5) rfl
 have c6:=h.head.cell (i:=6) rfl
 have z6:=h.head.free 6
 have l1:=h.ok.left1
 have l2:=h.ok.left2
 cases hf:M.fails
 ·have ht:M.tick=M:=by simp[DiskM.tick,hf]
  have hs:M.sinks=false:=by simp[DiskM.sinks,hf]
  rw[hf]at c5
  rw[ht,hs];clear ht hs hf
  go_enter Tryz.func30,Tryz.ntmps30
  go_wp2
  go_ret
  exact⟨rfl,hd',Kept.refl _ _⟩
 ·have hlv:=hlive hf
  have htk:DiskAt (w.setCell ⟨d,6,none⟩ (.int .i64 (M.left-1))) d fp M.tick mb lv fs:=by
   refine h.put 6 _ _ (by simp[DiskM.tick,hf]) (by simp[DiskM.tick,hf]) (h.ok.tick hlive) ?_
   simp[DiskM.cells,DiskM.tick,hf]
  have hs:M.sinks=decide (M.left-1<0):=by simp only[DiskM.sinks,hf,Bool.true_and];congr 1;apply propext;omega
  rw[hf]at c5
  rw[hs];clear hs hf hlive
  go_enter Tryz.func30,Tryz.ntmps30
  go_wp2
  go_ret
  exact⟨rfl,⟨mb,lv,fs,htk⟩,kept_cell _ _ _ _⟩
theorem up_any (w:World) (hd:IsDisk w d fp M):Calls Tryz.prog 37 #[.pointer (some ⟨d,0,none⟩)] w fun e w'=>e = .returned (.bool (!M.down))/\w=w':=by
 cases hdn:M.down
 ·have hr:M.ready=0:=by simp[DiskM.ready,hdn]
  go_enter Tryz.func37,Tryz.ntmps37
  go_wp2_with (go_at_call 76;refine(ready_any _ hd).mono ?_;rw[hr];rintro e w' ⟨rfl,rfl⟩)
  go_ret
  exact⟨rfl,rfl⟩
 ·have hr:M.ready=61:=by simp[DiskM.ready,hdn]
  go_enter Tryz.func37,Tryz.ntmps37
  go_wp2_with (go_at_call 76;refine(ready_any _ hd).mono ?_;rw[hr];rintro e w' ⟨rfl,rfl⟩)
  go_ret
  exact⟨rfl,rfl⟩
def DiskM.start (M:DiskM):DiskM:={ M with down:=false,starts:=M.starts+1 }
theorem start_up (w:World) (hd:IsDisk w d fp M) (hdn:M.down=false):Calls Tryz.prog 56 #[.pointer (some ⟨d,0,none⟩)] w fun e w'=>e = .returned (.int .i64 2)/\w=w':=by
 obtain⟨mb,lv,fs,h⟩:=hd
 have c0:=h.head.cell (i:=0) rfl
 have c3:=h.head.cell (i:=3) rfl
 rw[hdn]at c3
 clear hdn
 go_enter Tryz.func56,Tryz.ntmps56
 go_wp2_with (go_at_call 77;refine(disk_none_some _ _ _ c0).mono ?_;rintro e w' ⟨rfl,rfl⟩)
 go_ret
 exact⟨rfl,rfl⟩
theorem start_down (w:World) (hd:IsDisk w d fp M) (hdn:M.down=true) (hs0:0<=M.starts) (hs1:M.starts<9223372036854775807):Calls Tryz.prog 56 #[.pointer (some ⟨d,0,none⟩)] w fun e w'=>e = .returned (.int .i64 0)/\IsDisk w' d fp M.start/\Kept (· = d) w w':=by
 obtain⟨mb,lv,fs,h⟩:=hd
 have c0:=h.head.cell (i:=0) rfl
 have c3:=h.head.cell (i:=3) rfl
 have c4:=h.head.cell (i:=4) rfl
 have z3:=h.head.free 3
 have z4:=h.head.free 4
 have h1:=h.put 3 (.bool false) { M with down:=false } rfl rfl ⟨h.ok.rise,h.ok.keys,h.ok.cap0,h.ok.cap1,h.ok.room,h.ok.lo,h.ok.loks,h.ok.left1,h.ok.left2,h.ok.count,h.ok.keepk⟩ rfl
 have h2:=h1.put 4 (.int .i64 (M.starts+1)) M.start rfl rfl ⟨h.ok.rise,h.ok.keys,h.ok.cap0,h.ok.cap1,h.ok.room,h.ok.lo,h.ok.loks,h.ok.left1,h.ok.left2,h.ok.count,h.ok.keepk⟩ rfl
 rw[hdn]at c3
 clear hdn
 go_enter Tryz.func56,Tryz.ntmps56
 go_wp2_with (go_at_call 77;refine(disk_none_some _ _ _ c0).mono ?_;rintro e w' ⟨rfl,rfl⟩)
 go_ret
 exact⟨rfl,⟨mb,lv,fs,h2⟩,(kept_cell _ _ _ _).trans (kept_cell _ _ _ _)⟩
def vlen:Value->Nat
 | .slice _ n _=>n
 | _=>0
theorem DiskAt.vlens {w:World} {mb:Nat} {lv:Value} {fs:List (Int × Value)} (h:DiskAt w d fp M mb lv fs):AM.sum vlen fs=M.total:=by
 have hr:=h.map.rise Tryz.underlying3
 have e:AM.vmap vlen fs=AM.vmap List.length M.files:=by
  refine AM.ext (AM.rise_vmap hr _) (AM.rise_vmap h.ok.rise _) (fun n=>?_)
  rw[AM.get_vmap,AM.get_vmap]
  cases hg:AM.get M.files n with
  | none=>rw[h.get_none hg];rfl
  | some b =>
   obtain⟨v,hv⟩:=h.get_some hg
   rw[hv]
   obtain⟨a,m,cap,rfl,hm,_⟩:=(h.rows n v b hv hg).form (by omega)
   rw[bcells_len]at hm
   simp[vlen];omega
 have e2:∀ {α : Type} (f : α -> Nat) (m:List (Int × α)),AM.sum f m=AM.sum id (AM.vmap f m):=by
  intro α f m;simp[AM.sum,AM.vmap,Function.comp_def]
 unfold DiskM.total
 rw[e2 vlen,e2 List.length,e]
theorem free_any (w:World) (hd:IsDisk w d fp M):Calls Tryz.prog 35 #[.pointer (some ⟨d,0,none⟩)] w fun e w'=>e = .returned (.int .i64 (M.cap-M.total))/\Kept (fun _=>False) w w':=by
 obtain⟨mb,lv,fs,h⟩:=hd
 have c0:=h.head.cell (i:=0) rfl
 have c2:=h.head.cell (i:=2) rfl
 have k0:=h.ok.cap0
 have k1:=h.ok.cap1
 have k2:=h.ok.room
 have hsum:=h.vlens
 obtain⟨w1,hrg,hR,hk1,hs1⟩:=h.map.range (t:=75) (e:=72) Tryz.underlying3 Tryz.underlying75
 have HS:=Lib.hid hsum
 clear hsum
 go_enter Tryz.func35,Tryz.ntmps35
 go_wp2_with (go_at_call 77;refine(disk_none_some _ _ _ c0).mono ?_;rintro e w' ⟨rfl,rfl⟩)
 go_loopw [3] (fun x wr=>∃ todo,RangeI Tryz.prog 3 wr mb w.heap.size fs.length fs todo/\x = .int .i64 (M.cap-M.total+AM.sum vlen todo)/\AM.sum vlen todo<=M.total/\Kept (fun _=>False) w wr) (fun _ wr=>wr.rangeLeft mb w.heap.size)
 case atStart=>exact⟨fs,hR,by rw[HS.out];simp,by rw[HS.out];exact Nat.le_refl _,hk1⟩
 case round =>
  obtain⟨todo,hr,rfl,hle,hkept⟩:=hrel
  rcases hr.next Tryz.underlying3 0 with⟨rfl,hrun⟩|⟨a,v,w2,hmem,_,hrun,hr',hlt,hk,hsz,hent⟩
  ·go_wp2_with fail
   go_ret
   exact⟨ret_int (by simp[AM.sum]),hkept⟩
  ·have hgf:AM.get fs a=some v:=(AM.get_some (h.map.rise Tryz.underlying3)).2 (hr.sub _ hmem)
   have hgt:AM.get todo a=some v:=(AM.get_some (hr.rise Tryz.underlying3)).2 hmem
   have hsd:=AM.sum_del vlen (hr.rise Tryz.underlying3) hgt
   have hks:=h.keys a
   rw[hgf]at hks
   obtain⟨b,hb⟩:=Option.isSome_iff_exists.1 hks.symm
   obtain⟨x,m,cap,rfl,_,hm,_⟩:=(h.rows a v b hgf hb).form (by omega)
   have hvl:vlen (.slice x m cap)=m:=rfl
   rw[hvl]at hsd
   have HSD:=Lib.hid hsd
   have hmt:m<=M.total:=by omega
   clear hgf hgt hsd hks hb hvl
   go_wp2_with fail
   go_roundw
   case rel=>exact⟨AM.del todo a,hr',by have:=HSD.out;go_num,by have:=HSD.out;omega,hkept.then_ hk (fun y hy he=>by omega)⟩
   case measure=>exact hlt
end
theorem DiskM.has_cases (M:DiskM) (n:Int):(M.has n=0/\M.down=false/\∃ b,AM.get M.files n=some b)\/(M.has n=4/\M.down=false/\AM.get M.files n=none)\/(M.has n=61/\M.down=true):=by
 unfold DiskM.has
 cases hd:M.down
 ·cases hg:AM.get M.files n with
  | none=>simp
  | some b=>simp
 ·simp
section
variable {d : Nat} {fp : Nat → Prop} {M : DiskM}
theorem size_err (w:World) (n:Int) (n0 : -9223372036854775808<=n/\n<=9223372036854775807) (hd:IsDisk w d fp M) (he:M.has n≠0) :
  Calls Tryz.prog 38 #[.pointer (some ⟨d,0,none⟩),.int .i64 n] w fun e w'=>e = .returned (.tuple #[.int .i64 0,.int .i64 (M.has n)])/\w=w':=by
 rcases M.has_cases n with⟨h,_⟩|⟨h,_⟩|⟨h,_⟩
 ·exact absurd h he
 all_goals
  have hc:=has_any w n n0 hd
  rw[h]at hc ⊢
  clear he h
  go_enter Tryz.func38,Tryz.ntmps38
  go_wp2_with (go_at_call 29;refine hc.mono ?_;rintro e w' ⟨rfl,rfl⟩)
  exact bodyPost_ret (v:=.tuple #[.int .i64 0,.int .i64 _]) (by simp[results,Tryz.results38,go_sem]) rfl ⟨rfl,rfl⟩
theorem size_ok (w:World) (n:Int) (n0 : -9223372036854775808<=n/\n<=9223372036854775807) (b:List UInt8) (hd:IsDisk w d fp M) (hdn:M.down=false) (hb:AM.get M.files n=some b) :
  Calls Tryz.prog 38 #[.pointer (some ⟨d,0,none⟩),.int .i64 n] w fun e w'=>e = .returned (.tuple #[.int .i64 b.length,.int .i64 0])/\w=w':=by
 have h0:M.has n=0:=by simp[DiskM.has,hdn,hb]
 have hc:=has_any w n n0 hd
 rw[h0]at hc
 obtain⟨mb,lv,fs,h⟩:=hd
 have c0:=h.head.cell (i:=0) rfl
 obtain⟨v,hv⟩:=h.get_some hb
 have hl:=h.map.look (t:=75) (e:=72) Tryz.underlying3 Tryz.underlying75 (zeroBytes w) n0
 rw[hv,Option.getD_some]at hl
 obtain⟨a,m,cap,rfl,hm,_⟩:=(h.rows n v b hv hb).form (by omega)
 rw[bcells_len]at hm
 have e:b.length=m:=by omega
 rw[e]
 clear hm e hb hv h0
 go_enter Tryz.func38,Tryz.ntmps38
 go_wp2_with (go_at_call 29;refine hc.mono ?_;rintro e w' ⟨rfl,rfl⟩)
 exact bodyPost_ret (v:=.tuple #[.int .i64 m,.int .i64 0]) (by simp[results,Tryz.results38,go_sem]) rfl ⟨rfl,rfl⟩
def DiskM.fail (M:DiskM) (n keep:Int):DiskM:={ M with fails:=true,left:=n,keep:=keep }
theorem fail_down (w:World) (n keep:Int) (hd:IsDisk w d fp M) (hdn:M.down=true) :
  Calls Tryz.prog 58 #[.pointer (some ⟨d,0,none⟩),.int .i64 n,.int .i64 keep] w fun e w'=>e = .returned (.int .i64 61)/\w=w':=by
 have hr:M.ready=61:=by simp[DiskM.ready,hdn]
 go_enter Tryz.func58,Tryz.ntmps58
 go_wp2_with (go_at_call 76;refine(ready_any _ hd).mono ?_;rw[hr];rintro e w' ⟨rfl,rfl⟩)
 go_ret
 exact⟨rfl,rfl⟩
theorem fail_neg (w:World) (n keep:Int) (hd:IsDisk w d fp M) (hdn:M.down=false) (hn:n<0) :
  Calls Tryz.prog 58 #[.pointer (some ⟨d,0,none⟩),.int .i64 n,.int .i64 keep] w fun e w'=>e = .returned (.int .i64 2)/\w=w':=by
 have hr:M.ready=0:=by simp[DiskM.ready,hdn]
 have hx:decide (n<0)=true:=decide_eq_true hn
 go_enter Tryz.func58,Tryz.ntmps58
 go_wp2_with (go_at_call 76;refine(ready_any _ hd).mono ?_;rw[hr];rintro e w' ⟨rfl,rfl⟩)
 go_ret
 exact⟨rfl,rfl⟩
theorem fail_ok (w:World) (n keep:Int) (hd:IsDisk w d fp M) (hdn:M.down=false) (hn:0<=n) (hn1:n<=9223372036854775807) (hk : -9223372036854775808<=keep/\keep<=9223372036854775807) :
  Calls Tryz.prog 58 #[.pointer (some ⟨d,0,none⟩),.int .i64 n,.int .i64 keep] w fun e w'=>e = .returned (.int .i64 0)/\IsDisk w' d fp (M.fail n keep)/\Kept (· = d) w w':=by
 have hr:M.ready=0:=by simp[DiskM.ready,hdn]
 have hx:decide (n<0)=false:=by simp;omega
 have hc:=ready_any w hd
 rw[hr]at hc
 obtain⟨mb,lv,fs,h⟩:=hd
 have z5:=h.head.free 5
 have z6:=h.head.free 6
 have z7:=h.head.free 7
 have c5:=h.head.cell (i:=5) rfl
 have c6:=h.head.cell (i:=6) rfl
 have c7:=h.head.cell (i:=7) rfl
 have h1:=h.toDiskRaw.put 5 (.bool true) { M with fails:=true } rfl rfl rfl
 have h2:=h1.put 6 (.int .i64 n) { M with fails:=true,left:=n } rfl rfl rfl
 have h3:=h2.put 7 (.int .i64 keep) (M.fail n keep) rfl rfl rfl
 have h4:(M.fail n keep).Ok:=⟨h.ok.rise,h.ok.keys,h.ok.cap0,h.ok.cap1,h.ok.room,h.ok.lo,h.ok.loks,hn1,by show -1<=n;omega,h.ok.count,hk⟩
 clear hn hdn hr
 go_enter Tryz.func58,Tryz.ntmps58
 go_wp2_with (go_at_call 76;refine hc.mono ?_;rintro e w' ⟨rfl,rfl⟩)
 go_ret
 exact⟨rfl,⟨mb,lv,fs,h3,h4⟩,((kept_cell _ _ _ _).trans (kept_cell _ _ _ _)).trans (kept_cell _ _ _ _)⟩
end
end Go.Proofs.YtdmedbhbefdnkaaGreatDoor
