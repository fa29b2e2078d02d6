/- Disk9 DiskOwn DiskP Disk10 Disk11 Disk12 Apart DiskLoose -/
import Derived.Lib.AppendZeros
import Derived.Test.YtdmedbhbefdnkaaGreatDoorUKeyringPlay19
set_option linter.unusedVariables false
set_option linter.unusedSimpArgs false
set_option maxRecDepth 100000
set_option maxHeartbeats 16000000
namespace Go.Proofs.YtdmedbhbefdnkaaGreatDoor
open Go.RowKit
theorem step_append_run {P:Program} {w:World} {ops:Array Oper} {o:Oper} {a:Act} {K:Act->World->Prop} {Q:Exit->Act->World->Prop} {E:Prop} (hgd:o.guard=none) (s x:Operand) (t tn:TypeId)
  (ho:o.op = .call { callee:=.builtin .append,args:=#[s,x],argTypes:=#[t,tn] }) (vs vx:Value) (hs:a.eval s=vs) (hx:a.eval x=vx)
  (v':Value) (w':World) (hr:(Builtin.append_ #[t,tn] o.type #[vs,vx]).run P w = .ok v' w') (h:K (a.put o.dst v') w') :
  if Region.wanted o (yielded ops a.tmps)=true then Oper.wp P o a w K Q else E:=by
 have hw:Region.wanted o (yielded ops a.tmps)=true:=by simp[Region.wanted,hgd]
 rw[if_pos hw]
 exact Lib.wp_append_run w s x t tn ho vs vx hs hx v' w' hr h
section
variable {d : Nat} {fp : Nat → Prop} {M : DiskM}
theorem append_err (w:World) (n:Int) (n0 : -9223372036854775808<=n/\n<=9223372036854775807) (s:ByteArray) (hd:IsDisk w d fp M) (he:M.has n≠0) :
  Calls Tryz.prog 12 #[.pointer (some ⟨d,0,none⟩),.int .i64 n,.string s] w fun e w'=>e = .returned (.int .i64 (M.has n))/\w=w':=by
 rcases M.has_cases n with⟨h,_⟩|⟨h,_⟩|⟨h,_⟩
 ·exact absurd h he
 all_goals
  have hc:=has_any w n n0 hd
  rw[h]at hc ⊢
  clear he h
  go_enter Tryz.func12,Tryz.ntmps12
  go_wp2_with (go_at_call 29;refine hc.mono ?_;rintro e w' ⟨rfl,rfl⟩)
  go_ret
  exact⟨rfl,rfl⟩
theorem append_full (w:World) (n:Int) (n0 : -9223372036854775808<=n/\n<=9223372036854775807) (s:ByteArray) (hd:IsDisk w d fp M) (he:M.has n=0) (hf:M.cap-M.total<s.size) :
  Calls Tryz.prog 12 #[.pointer (some ⟨d,0,none⟩),.int .i64 n,.string s] w fun e w'=>e = .returned (.int .i64 60)/\Kept (fun _=>False) w w':=by
 have hc:=has_any w n n0 hd
 rw[he]at hc
 have hfree:=free_any w hd
 have x1:decide (M.cap-M.total<(s.size:Int))=true:=decide_eq_true hf
 clear he
 go_enter Tryz.func12,Tryz.ntmps12
 go_wp2_with (first|(go_at_call 29;refine hc.mono ?_;rintro e w' ⟨rfl,rfl⟩)|(go_at_call 35;refine hfree.mono ?_;rintro e w1 ⟨rfl,hk1⟩))
 go_ret
 exact⟨rfl,hk1⟩
theorem DiskAt.appendRun {w w1:World} {mb:Nat} {lv v:Value} {fs:List (Int × Value)} (h:DiskAt w d fp M mb lv fs) {n:Int} {b:List UInt8} (s:ByteArray) (hv:AM.get fs n=some v) (hb:AM.get M.files n=some b) (hr:((M.total+s.size:Nat):Int)<=M.cap) (hcnt:M.files.length+M.loose.length<300000000) (hk1:Kept (fun _=>False) w w1) :
  ∃ v' w2 w3,w1.cell? ⟨d,0,none⟩=some (.map (some mb))/\(Instr.lookup 75 (.map (some mb)) (.int .i64 n) false).run Tryz.prog w1.drew = .ok v w1.drew/\(Builtin.append_ #[72,9] 72 #[v,.string s]).run Tryz.prog w1.drew = .ok v' w2/\(Instr.mapUpdate 75 (.map (some mb)) (.int .i64 n) v').run Tryz.prog w2 = .ok () w3 /\
   w2.cell? ⟨d,0,none⟩=some (.map (some mb))/\w3.cell? ⟨d,0,none⟩=some (.map (some mb))/\w3.cell? ⟨d,1,none⟩=some lv/\∃ la ln lc w4,(Builtin.append_ #[76,76] 76 #[lv,.slice (some ⟨w3.heap.size,0,none⟩) 1 1]).run Tryz.prog (w3.alloc (.cells #[.int .i64 n,.int .i64 (s.size:Int)] 89)) = .ok (.slice la ln lc) w4/\w4.cell? ⟨d,1,none⟩=some lv/\w4.frozen? ⟨d,1,none⟩=false/\DiskTo d fp (M.appended n s.data.toList) w (w4.setCell ⟨d,1,none⟩ (.slice la ln lc)):=by
 have hn:=h.ok.keys (n,b) ((AM.get_some h.ok.rise).1 hb)
 have hcap1:=h.ok.cap1
 have hok:(M.appended n s.data.toList).Ok:=h.ok.appended hb (by simpa using hr) hcnt
 have h1:=h.kept hk1 (fun _ _=>id)
 have hlk:=h1.map.drew.look (t:=75) (e:=72) Tryz.underlying3 Tryz.underlying75 (zeroBytes w1.drew) (a:=n) (by omega)
 rw[hv,Option.getD_some]at hlk
 obtain⟨v',w2,w3,ha,hu,hraw,hk3,e02⟩:=h1.appendBytes hv hb s (by omega)
 obtain⟨lv',w4,ha2,hraw2,hk4,hc4,hz4⟩:=hraw.addPiece n s.size (by show M.loose.length<_;omega)
 obtain⟨la,ln,lc,rfl,_⟩:=hraw2.loose.form (by omega)
 refine⟨v',w2,w3,h1.head.cell (i:=0) rfl,hlk,ha,hu,e02,hraw.head.cell (i:=0) rfl,hraw.head.cell (i:=1) rfl,la,ln,lc,w4,ha2,hc4,hz4,?_⟩
 have hfd:fp d:=h.fpd
 have hk04:Kept fp w w4:=((hk1.mono (fun _ _=>False.elim)).trans hk3).then_ hk4 (fun i hi q=>q.elim id (fun q=>by have:=hk1.size;omega))
 have hs13:=hk1.size
 have hs3:=hk3.size
 refine⟨fun k=>fp k\/w.heap.size<=k,⟨mb,.slice la ln lc,AM.set fs n v',?_,hok⟩,hk04.setCell (fun _=>hfd) _,fun k=>id⟩
 have e:M.appended n s.data.toList = { M with files:=AM.set M.files n (b++s.data.toList),loose:=M.loose++[(n,s.size)] }:=by
  unfold DiskM.appended;rw[hb];rfl
 rw[e]
 exact hraw2.fpmono (fun k q=>by rcases q with (q|q)|q;exact Or.inl q;exact Or.inr (by omega);exact Or.inr (by omega))
theorem append_in (w:World) (n:Int) (s:ByteArray) (b:List UInt8) (hd:IsDisk w d fp M) (hl:M.Live) (hdn:M.down=false) (hb:AM.get M.files n=some b) (hr:((M.total+s.size:Nat):Int)<=M.cap) (hcnt:M.files.length+M.loose.length<300000000) (hsk:M.sinks=false) :
  Calls Tryz.prog 12 #[.pointer (some ⟨d,0,none⟩),.int .i64 n,.string s] w fun e w'=>e = .returned (.int .i64 0)/\DiskTo d fp (M.appended n s.data.toList).tick w w':=by
 have hn:=hd.ok.keys (n,b) ((AM.get_some hd.ok.rise).1 hb)
 have he:M.has n=0:=by simp[DiskM.has,hdn,hb]
 have hc:=has_any w n (by omega) hd
 rw[he]at hc
 have hfree:=free_any w hd
 have hcap1:=hd.ok.cap1
 have x1:decide (M.cap-M.total<(s.size:Int))=false:=by simp;omega
 have hok:(M.appended n s.data.toList).Ok:=hd.ok.appended hb (by simpa using hr) hcnt
 have hlive:(M.appended n s.data.toList).Live:=hl
 have hsk':(M.appended n s.data.toList).sinks=false:=hsk
 obtain⟨mb,lv,fs,h⟩:=hd
 obtain⟨v,hv⟩:=h.get_some hb
 have hex:=fun (w1:World) (hk1:Kept (fun _=>False) w w1)=>h.appendRun s hv hb hr hcnt hk1
 have HX:=Lib.hid hex
 have H0:=Lib.hid (And.intro hsk' hlive)
 clear hex he hb hv hr hsk hsk' hlive hdn hcnt
 go_enter Tryz.func12,Tryz.ntmps12
 go_wp2_with (first|(go_at_call 29;refine hc.mono ?_;rintro e w' ⟨rfl,rfl⟩)|(go_at_call 35;refine hfree.mono ?_;rintro e w1 ⟨rfl,hk1⟩))
 obtain⟨v',w2,w3,e0,hlk,ha,hu,e02,e03,e1,la,ln,lc,w4,ha2,e2,z2,hto⟩:=HX.out w1 hk1
 go_region_held3 (fun w'=>w'.cell? ⟨d,0,none⟩=some (.map (some mb))) (first|exact e0|exact e02|exact e03) (first|(refine step_append_run rfl _ _ 72 9 rfl _ _ rfl rfl _ _ ha ?_))
 have hd4:∃ fp',IsDisk (w4.setCell ⟨d,1,none⟩ (.slice la ln lc)) d fp' (M.appended n s.data.toList)/\Kept fp w (w4.setCell ⟨d,1,none⟩ (.slice la ln lc))/\∀ k,fp' k->fp k\/w.heap.size<=k:=hto
 obtain⟨fp',hd4,hk4,hf4⟩:=hd4
 have hs:=sinks_any _ hd4 H0.out.2
 rw[H0.out.1]at hs
 go_wp2_with (first|(at_builtin;refine Lib.wpList_append_run _ rfl _ _ 76 76 rfl _ _ rfl rfl _ _ ha2 ?_)|(go_at_call 30;refine hs.mono ?_;rintro e w5 ⟨rfl,hd5,hk5⟩))
 go_ret
 exact⟨rfl,fp',hd5,hk4.then_ hk5 (fun i hi e=>by rw[e];exact h.fpd),hf4⟩
theorem append_sink (w:World) (n:Int) (s:ByteArray) (b:List UInt8) (hd:IsDisk w d fp M) (hl:M.Live) (hdn:M.down=false) (hb:AM.get M.files n=some b) (hr:((M.total+s.size:Nat):Int)<=M.cap) (hcnt:M.files.length+M.loose.length<300000000) (hsk:M.sinks=true) :
  Calls Tryz.prog 12 #[.pointer (some ⟨d,0,none⟩),.int .i64 n,.string s] w fun e w'=>e = .returned (.int .i64 61)/\DiskTo d fp (M.appended n s.data.toList).sunk w w':=by
 have hn:=hd.ok.keys (n,b) ((AM.get_some hd.ok.rise).1 hb)
 have he:M.has n=0:=by simp[DiskM.has,hdn,hb]
 have hc:=has_any w n (by omega) hd
 rw[he]at hc
 have hfree:=free_any w hd
 have hcap1:=hd.ok.cap1
 have x1:decide (M.cap-M.total<(s.size:Int))=false:=by simp;omega
 have hok:(M.appended n s.data.toList).Ok:=hd.ok.appended hb (by simpa using hr) hcnt
 have hlive:(M.appended n s.data.toList).Live:=hl
 have hsk':(M.appended n s.data.toList).sinks=true:=hsk
 obtain⟨mb,lv,fs,h⟩:=hd
 obtain⟨v,hv⟩:=h.get_some hb
 have hex:=fun (w1:World) (hk1:Kept (fun _=>False) w w1)=>h.appendRun s hv hb hr hcnt hk1
 have HX:=Lib.hid hex
 have hd0:(M.appended n s.data.toList).tick.down=false:=by rw[DiskM.tick_down];exact hdn
 have HE:Hid ((M.appended n s.data.toList).tick.crash (M.appended n s.data.toList).tick.keep=(M.appended n s.data.toList).sunk):=Lib.hid (by rw[DiskM.tick_keep];rfl)
 have H0:=Lib.hid (And.intro hsk' hlive)
 clear hex he hb hv hr hsk hsk' hlive hdn hcnt
 go_enter Tryz.func12,Tryz.ntmps12
 go_wp2_with (first|(go_at_call 29;refine hc.mono ?_;rintro e w' ⟨rfl,rfl⟩)|(go_at_call 35;refine hfree.mono ?_;rintro e w1 ⟨rfl,hk1⟩))
 obtain⟨v',w2,w3,e0,hlk,ha,hu,e02,e03,e1,la,ln,lc,w4,ha2,e2,z2,hto⟩:=HX.out w1 hk1
 go_region_held3 (fun w'=>w'.cell? ⟨d,0,none⟩=some (.map (some mb))) (first|exact e0|exact e02|exact e03) (first|(refine step_append_run rfl _ _ 72 9 rfl _ _ rfl rfl _ _ ha ?_))
 have hd4:∃ fp',IsDisk (w4.setCell ⟨d,1,none⟩ (.slice la ln lc)) d fp' (M.appended n s.data.toList)/\Kept fp w (w4.setCell ⟨d,1,none⟩ (.slice la ln lc))/\∀ k,fp' k->fp k\/w.heap.size<=k:=hto
 obtain⟨fp',hd4,hk4,hf4⟩:=hd4
 have hs:=sinks_any _ hd4 H0.out.2
 rw[H0.out.1]at hs
 go_wp2_with (first|(at_builtin;refine Lib.wpList_append_run _ rfl _ _ 76 76 rfl _ _ rfl rfl _ _ ha2 ?_)|(go_at_call 30;refine hs.mono ?_;rintro e w5 ⟨rfl,hd5,hk5⟩)|(go_at_call 31;refine(sink_up _ hd5 hd0).mono ?_;rintro e w6 ⟨rfl,hd6,hk6⟩))
 go_ret
 exact⟨rfl,fp',by rw[<- HE.out];exact hd6,(hk4.then_ hk5 (fun i hi e=>by rw[e];exact h.fpd)).then_ hk6 (fun i hi e=>(hf4 i e).elim id (fun q=>by omega)),hf4⟩
end
def DiskM.crashR (M:DiskM) (keep:Int):Int × DiskM:=if M.down=true then(61,M)else(0,M.crash keep)
def DiskM.startR (M:DiskM):Int × DiskM:=if M.down=true then(0,M.start)else(2,M)
def DiskM.failR (M:DiskM) (n keep:Int):Int × DiskM:=if M.down=true then(61,M)else if n<0 then(2,M)else(0,M.fail n keep)
section
variable {M : DiskM}
theorem DiskM.Live.crash (keep:Int):(M.crash keep).Live:=fun h=>by cases h
theorem DiskM.Live.sunk:M.sunk.Live:=DiskM.Live.crash _
theorem DiskM.Live.tick (hl:M.Live) (h:M.sinks=false):M.tick.Live:=by
 intro hf
 unfold DiskM.tick at hf ⊢
 unfold DiskM.sinks at h
 split at hf
 ·rename_i h1
  rw[if_pos h1]
  rw[h1]at h
  simp at h
  show 0<=M.left-1
  omega
 ·rename_i h1
  exact absurd hf h1
theorem DiskM.Live.sync (hl:M.Live):M.sync.2.Live:=by
 unfold DiskM.sync
 split
 ·exact hl
 ·split
  ·exact DiskM.Live.sunk
  ·rename_i h
   exact DiskM.Live.tick hl (by simpa using h)
theorem DiskM.Live.create (hl:M.Live) (n:Int):(M.create n).2.Live:=by
 unfold DiskM.create
 split
 ·exact hl
 split
 ·exact hl
 split
 ·exact hl
 split
 ·exact hl
 split
 ·exact DiskM.Live.sunk
 ·rename_i h
  exact DiskM.Live.tick hl (by simpa using h)
theorem DiskM.Live.append (hl : M.Live) (n : Int) (s : List UInt8) : (M.append n s).2.Live := by
  unfold DiskM.append
  split
  · exact hl
  split
  · exact hl
  split
  · exact DiskM.Live.sunk
  · rename_i h
    exact DiskM.Live.tick (M := M.appended n s) hl (by have h2 : M.sinks = false := by simpa using h
                                                       exact h2)
theorem DiskM.Live.crashR (hl:M.Live) (keep:Int):(M.crashR keep).2.Live:=by
 unfold DiskM.crashR
 split
 ·exact hl
 ·exact DiskM.Live.crash _
theorem DiskM.Live.startR (hl:M.Live):M.startR.2.Live:=by
 unfold DiskM.startR
 split
 ·exact hl
 ·exact hl
theorem DiskM.Live.failR (hl:M.Live) (n keep:Int):(M.failR n keep).2.Live:=by
 unfold DiskM.failR
 split
 ·exact hl
 split
 ·exact hl
 ·intro _;show 0<=n;omega
end
section
variable {d : Nat} {fp : Nat → Prop} {M : DiskM}
theorem create_to (w:World) (n:Int) (n0 : -9223372036854775808<=n/\n<=9223372036854775807) (hd:IsDisk w d fp M) (hl:M.Live) (hc:M.files.length+M.loose.length<300000000) :
  Calls Tryz.prog 10 #[.pointer (some ⟨d,0,none⟩),.int .i64 n] w fun e w'=>e = .returned (.int .i64 (M.create n).1)/\DiskTo d fp (M.create n).2 w w':=by
 by_cases he:M.down=true\/n<0\/(AM.get M.files n).isSome=true\/100<=M.files.length
 ·refine(create_err w n n0 hd he).mono ?_
  rintro e w' ⟨rfl,h2,rfl⟩
  exact⟨rfl,by rw[h2];exact DiskTo.same hd⟩
 ·have h1:M.down=false:=by simpa using fun h=>he (Or.inl h)
  have h2:¬ n<0:=fun h=>he (Or.inr (Or.inl h))
  have h3:AM.get M.files n=none:=by
   cases hg:AM.get M.files n with
   | none=>rfl
   | some b=>exact absurd (Or.inr (Or.inr (Or.inl (by rw[hg];rfl)))) he
  have h4:¬ 100<=M.files.length:=fun h=>he (Or.inr (Or.inr (Or.inr h)))
  cases hs:M.sinks
  ·have e:M.create n=(0, { M.tick with files:=AM.set M.files n [] }):=by simp[DiskM.create,h1,h2,h3,h4,hs]
   rw[e]
   exact create_ok w n (by omega) hd hl h1 h3 (by omega) (by omega) hs
  ·have e:M.create n=(61,M.sunk):=by simp[DiskM.create,h1,h2,h3,h4,hs]
   rw[e]
   refine(create_sinks w n (by omega) hd hl h1 h3 (by omega) hs).mono ?_
   rintro e w' ⟨rfl,h5,h6⟩
   exact⟨rfl,fp,h5,h6,fun _=>Or.inl⟩
theorem append_to (w:World) (n:Int) (n0 : -9223372036854775808<=n/\n<=9223372036854775807) (s:ByteArray) (hd:IsDisk w d fp M) (hl:M.Live) (hc:M.files.length+M.loose.length<300000000) :
  Calls Tryz.prog 12 #[.pointer (some ⟨d,0,none⟩),.int .i64 n,.string s] w fun e w'=>e = .returned (.int .i64 (M.append n s.data.toList).1)/\DiskTo d fp (M.append n s.data.toList).2 w w':=by
 rcases M.has_cases n with⟨h0,hdn,b,hb⟩|⟨h0,_⟩|⟨h0,_⟩
 ·by_cases hf:M.cap-M.total<s.size
  ·have e:M.append n s.data.toList=(60,M):=by
    unfold DiskM.append
    rw[if_neg (by simp[h0]),if_pos (by simpa using hf)]
   rw[e]
   refine(append_full w n n0 s hd h0 hf).mono ?_
   rintro e w' ⟨rfl,hk⟩
   exact⟨rfl,fp,hd.kept hk (fun _ _=>id),hk.mono (fun _ _=>False.elim),fun _=>Or.inl⟩
  ·have hr:((M.total+s.size:Nat):Int)<=M.cap:=by omega
   cases hs:M.sinks
   ·have e:M.append n s.data.toList=(0,(M.appended n s.data.toList).tick):=by
     unfold DiskM.append
     rw[if_neg (by simp[h0]),if_neg (by simpa using hf),if_neg (by simp[hs])]
    rw[e]
    exact append_in w n s b hd hl hdn hb hr hc hs
   ·have e:M.append n s.data.toList=(61,(M.appended n s.data.toList).sunk):=by
     unfold DiskM.append
     rw[if_neg (by simp[h0]),if_neg (by simpa using hf),if_pos hs]
    rw[e]
    exact append_sink w n s b hd hl hdn hb hr hc hs
 all_goals
  have e:M.append n s.data.toList=(M.has n,M):=by
   unfold DiskM.append
   rw[if_pos (by rw[h0];decide)]
  rw[e]
  refine(append_err w n n0 s hd (by rw[h0];decide)).mono ?_
  rintro e w' ⟨rfl,rfl⟩
  exact⟨rfl,DiskTo.same hd⟩
theorem crash_to (w:World) (keep:Int) (k0 : -9223372036854775808<=keep/\keep<=9223372036854775807) (hd:IsDisk w d fp M) :
  Calls Tryz.prog 54 #[.pointer (some ⟨d,0,none⟩),.int .i64 keep] w fun e w'=>e = .returned (.int .i64 (M.crashR keep).1)/\DiskTo d fp (M.crashR keep).2 w w':=by
 cases hdn:M.down
 ·have e:M.crashR keep=(0,M.crash keep):=by simp[DiskM.crashR,hdn]
  rw[e]
  refine(crash_up w keep k0 hd hdn).mono ?_
  rintro e w' ⟨rfl,h1,h2⟩
  exact⟨rfl,fp,h1,h2,fun _=>Or.inl⟩
 ·have e:M.crashR keep=(61,M):=by simp[DiskM.crashR,hdn]
  rw[e]
  refine(crash_down w keep hd hdn).mono ?_
  rintro e w' ⟨rfl,rfl⟩
  exact⟨rfl,DiskTo.same hd⟩
theorem start_to (w:World) (hd:IsDisk w d fp M) (hs:0<=M.starts/\M.starts<9223372036854775807) :
  Calls Tryz.prog 56 #[.pointer (some ⟨d,0,none⟩)] w fun e w'=>e = .returned (.int .i64 M.startR.1)/\DiskTo d fp M.startR.2 w w':=by
 cases hdn:M.down
 ·have e:M.startR=(2,M):=by simp[DiskM.startR,hdn]
  rw[e]
  refine(start_up w hd hdn).mono ?_
  rintro e w' ⟨rfl,rfl⟩
  exact⟨rfl,DiskTo.same hd⟩
 ·have e:M.startR=(0,M.start):=by simp[DiskM.startR,hdn]
  rw[e]
  refine(start_down w hd hdn hs.1 hs.2).mono ?_
  rintro e w' ⟨rfl,h1,h2⟩
  exact⟨rfl,fp,h1,h2.head hd.fpd,fun _=>Or.inl⟩
theorem fail_to (w:World) (n keep:Int) (n0 : -9223372036854775808<=n/\n<=9223372036854775807) (k0 : -9223372036854775808<=keep/\keep<=9223372036854775807) (hd:IsDisk w d fp M) :
  Calls Tryz.prog 58 #[.pointer (some ⟨d,0,none⟩),.int .i64 n,.int .i64 keep] w fun e w'=>e = .returned (.int .i64 (M.failR n keep).1)/\DiskTo d fp (M.failR n keep).2 w w':=by
 cases hdn:M.down
 ·by_cases hn:n<0
  ·have e:M.failR n keep=(2,M):=by simp[DiskM.failR,hdn,hn]
   rw[e]
   refine(fail_neg w n keep hd hdn hn).mono ?_
   rintro e w' ⟨rfl,rfl⟩
   exact⟨rfl,DiskTo.same hd⟩
  ·have e:M.failR n keep=(0,M.fail n keep):=by simp[DiskM.failR,hdn,hn]
   rw[e]
   refine(fail_ok w n keep hd hdn (by omega) (by omega) k0).mono ?_
   rintro e w' ⟨rfl,h1,h2⟩
   exact⟨rfl,fp,h1,h2.head hd.fpd,fun _=>Or.inl⟩
 ·have e:M.failR n keep=(61,M):=by simp[DiskM.failR,hdn]
  rw[e]
  refine(fail_down w n keep hd hdn).mono ?_
  rintro e w' ⟨rfl,rfl⟩
  exact⟨rfl,DiskTo.same hd⟩
end
section
variable {w0 w w' : World} {B : Nat → Prop} {d : Nat} {M M' : DiskM} {r : Int}
theorem IsDisk.low {fp:Nat->Prop} (h:IsDisk w d fp M):IsDisk w d (fun k=>fp k/\k<w.heap.size) M:=by
 obtain⟨mb,lv,fs,h⟩:=h
 exact⟨mb,lv,fs,h.toDiskRaw.low,h.ok⟩
end
def DiskM.dropL (n:Int):List (Int × Nat)->Nat->List (Int × Nat)
 | [],_=>[]
 | p::r,stay=>if p.1=n then(p.1,min p.2 stay)::DiskM.dropL n r (stay-min p.2 stay)else p::DiskM.dropL n r stay
theorem looseOf_cons (p:Int × Nat) (r:List (Int × Nat)) (n:Int):DiskM.looseOf (p::r) n=(if p.1=n then p.2 else 0)+DiskM.looseOf r n:=rfl
theorem dropL_append (n:Int) (l r:List (Int × Nat)) (stay:Nat):DiskM.dropL n (l++r) stay=DiskM.dropL n l stay++DiskM.dropL n r (stay-DiskM.looseOf l n):=by
 induction l generalizing stay with
 | nil=>simp[DiskM.dropL,DiskM.looseOf]
 | cons p l ih =>
  simp only[List.cons_append,DiskM.dropL,looseOf_cons]
  by_cases h:p.1=n
  ·simp only[h,if_true,ih,List.cons_append,List.cons.injEq,true_and]
   congr 2
   omega
  ·simp only[h,if_false,ih,List.cons_append,List.cons.injEq,true_and]
   congr 2
   omega
theorem dropL_len (n:Int) (l:List (Int × Nat)) (stay:Nat):(DiskM.dropL n l stay).length=l.length:=by
 induction l generalizing stay with
 | nil=>rfl
 | cons p l ih=>unfold DiskM.dropL;split<;>simp[ih]
theorem dropL_keys (n:Int) (l:List (Int × Nat)) (stay:Nat):(DiskM.dropL n l stay).map (·.1)=l.map (·.1):=by
 induction l generalizing stay with
 | nil=>rfl
 | cons p l ih=>unfold DiskM.dropL;split<;>simp[ih]
theorem looseOf_dropL (n:Int) (l:List (Int × Nat)) (stay:Nat):DiskM.looseOf (DiskM.dropL n l stay) n=min (DiskM.looseOf l n) stay:=by
 induction l generalizing stay with
 | nil=>simp[DiskM.dropL,DiskM.looseOf]
 | cons p l ih =>
  unfold DiskM.dropL
  by_cases h:p.1=n
  ·simp only[h,if_true,looseOf_cons,ih];omega
  ·simp only[h,if_false,looseOf_cons,ih];omega
theorem looseOf_dropL_other {n k:Int} (hk:k≠n) (l:List (Int × Nat)) (stay:Nat):DiskM.looseOf (DiskM.dropL n l stay) k=DiskM.looseOf l k:=by
 induction l generalizing stay with
 | nil=>simp[DiskM.dropL]
 | cons p l ih =>
  unfold DiskM.dropL
  by_cases h:p.1=n
  ·simp only[h,if_true,looseOf_cons,ih];rw[if_neg (fun e=>hk e.symm),if_neg (fun e=>hk e.symm)]
  ·simp only[h,if_false,looseOf_cons,ih]
theorem dropL_mem {n:Int} {l:List (Int × Nat)} {stay:Nat} {p:Int × Nat} (h:p∈DiskM.dropL n l stay):∃ q∈l,q.1=p.1:=by
 have:p.1∈(DiskM.dropL n l stay).map (·.1):=List.mem_map_of_mem h
 rw[dropL_keys]at this
 obtain⟨q,h1,h2⟩:=List.mem_map.1 this
 exact⟨q,h1,h2⟩
def dropTo (n:Int) (l:List (Int × Nat)) (stay i:Nat):List (Int × Nat):=DiskM.dropL n (l.take i) stay++l.drop i
theorem dropTo_zero (n:Int) (l:List (Int × Nat)) (stay:Nat):dropTo n l stay 0=l:=by simp[dropTo,DiskM.dropL]
theorem dropTo_all (n:Int) (l:List (Int × Nat)) (stay i:Nat) (h:l.length<=i):dropTo n l stay i=DiskM.dropL n l stay:=by
 unfold dropTo;rw[List.take_of_length_le h,List.drop_of_length_le h,List.append_nil]
theorem dropTo_get (n:Int) (l:List (Int × Nat)) (stay i:Nat) (p:Int × Nat) (h:l[i]? = some p):(dropTo n l stay i)[i]? = some p:=by
 have hi:=(List.getElem?_eq_some_iff.1 h).1
 unfold dropTo
 rw[List.getElem?_append_right (by rw[dropL_len,List.length_take];omega),dropL_len,List.length_take,List.getElem?_drop]
 rw[show i+(i-min i l.length)=i by omega]
 exact h
theorem dropTo_succ_same (n:Int) (l:List (Int × Nat)) (stay i:Nat) (p:Int × Nat) (h:l[i]? = some p) (hp:p.1=n) :
  dropTo n l stay (i+1)=(dropTo n l stay i).set i (p.1,min p.2 (stay-DiskM.looseOf (l.take i) n)):=by
 have hi:=(List.getElem?_eq_some_iff.1 h).1
 have hg:l[i]=p:=(List.getElem?_eq_some_iff.1 h).2
 unfold dropTo
 rw[List.take_add_one,h,dropL_append]
 rw[List.drop_eq_getElem_cons hi,hg]
 rw[List.set_append_right _ _ (by rw[dropL_len,List.length_take];omega),dropL_len,List.length_take]
 rw[show i-min i l.length=0 by omega]
 simp[DiskM.dropL,hp]
theorem dropTo_succ_other (n:Int) (l:List (Int × Nat)) (stay i:Nat) (p:Int × Nat) (h:l[i]? = some p) (hp:p.1≠n):dropTo n l stay (i+1)=dropTo n l stay i:=by
 have hi:=(List.getElem?_eq_some_iff.1 h).1
 have hg:l[i]=p:=(List.getElem?_eq_some_iff.1 h).2
 unfold dropTo
 rw[List.take_add_one,h,dropL_append,List.drop_eq_getElem_cons hi,hg]
 simp[DiskM.dropL,hp]
theorem looseOf_take (l:List (Int × Nat)) (n:Int) (i:Nat) (p:Int × Nat) (h:l[i]? = some p):DiskM.looseOf (l.take (i+1)) n=DiskM.looseOf (l.take i) n+if p.1=n then p.2 else 0:=by
 rw[List.take_add_one,h,looseOf_append]
 simp[DiskM.looseOf]
theorem looseOf_take_le (l:List (Int × Nat)) (n:Int) (i:Nat):DiskM.looseOf (l.take i) n<=DiskM.looseOf l n:=by
 conv=>rhs;rw[<- List.take_append_drop i l]
 rw[looseOf_append];omega
def DiskM.truncated (M:DiskM) (n:Int) (size:Nat):DiskM :=
 { M with files:=AM.set M.files n (((AM.get M.files n).getD []).take size),loose:=DiskM.dropL n M.loose (size-(((AM.get M.files n).getD []).length-DiskM.looseOf M.loose n)) }
def DiskM.truncate (M:DiskM) (n size:Int):Int × DiskM :=
 if M.has n≠0 then(M.has n,M)else if size<0\/((AM.get M.files n).getD []).length<size then(2,M)else if M.sinks=true then(61,M.sunk)else(0,M.tick.truncated n size.toNat)
theorem DiskM.Ok.truncated {M:DiskM} (h:M.Ok) {n:Int} {b:List UInt8} (hg:AM.get M.files n=some b) (size:Nat) (hs:size<=b.length):(M.truncated n size).Ok:=by
 have hn:=h.keys (n,b) ((AM.get_some h.rise).1 hg)
 have e:(AM.get M.files n).getD []=b:=by rw[hg];rfl
 have hlo:=h.lo n
 rw[e]at hlo
 unfold DiskM.truncated
 rw[e]
 refine⟨AM.rise_set h.rise _ _,fun p hp=>?_,h.cap0,h.cap1,?_,fun k=>?_,fun p hp=>?_,h.left1,h.left2,?_,h.keepk⟩
 ·rcases AM.mem_set.1 hp with rfl|⟨hp,_⟩
  ·exact hn
  ·exact h.keys p hp
 ·have hr:=h.room
  unfold DiskM.total at hr ⊢
  rw[AM.sum_del List.length h.rise hg]at hr
  show((AM.sum List.length (AM.set M.files n (b.take size)):Nat):Int)<=M.cap
  rw[AM.sum_set,List.length_take]
  omega
 ·show DiskM.looseOf (DiskM.dropL n M.loose _) k<=((AM.get (AM.set M.files n (b.take size)) k).getD []).length
  by_cases e:k=n
  ·subst e
   rw[AM.get_set_same h.rise,looseOf_dropL]
   simp only[Option.getD_some,List.length_take]
   omega
  ·rw[AM.get_set_other h.rise _ e,looseOf_dropL_other e]
   exact h.lo k
 ·obtain⟨q,h1,h2⟩:=dropL_mem hp
  rw[<- h2]
  exact h.loks q h1
 ·have h1:(AM.set M.files n (b.take size)).length=M.files.length:=by
   rw[AM.length_set]
   exact AM.length_del_some h.rise hg
  show(AM.set M.files n (b.take size)).length+(DiskM.dropL n M.loose _).length<=_
  rw[h1,dropL_len]
  exact h.count
section
variable {d : Nat} {fp : Nat → Prop} {M : DiskM}
theorem looseOf_le_all (l:List (Int × Nat)) (n:Int):DiskM.looseOf l n<=DiskM.looseAll l:=by
 induction l with
 | nil=>simp[DiskM.looseOf,DiskM.looseAll]
 | cons p r ih =>
  have e:DiskM.looseAll (p::r)=p.2+DiskM.looseAll r:=by simp[DiskM.looseAll]
  rw[e,looseOf_cons];split<;>omega
theorem of_any (w:World) (n:Int) (n0 : -9223372036854775808<=n/\n<=9223372036854775807) (hd:IsDisk w d fp M):Calls Tryz.prog 92 #[.pointer (some ⟨d,0,none⟩),.int .i64 n] w fun e w'=>e = .returned (.int .i64 (DiskM.looseOf M.loose n))/\Kept (fun _=>False) w w':=by
 obtain⟨mb,lv,fs,h⟩:=hd
 have c1:=h.head.cell (i:=1) rfl
 have hrow:=h.loose
 have k1:=h.ok.cap1
 have k2:=h.ok.room
 have k3:=looseAll_le h.ok
 have k4:=looseOf_le_all M.loose n
 obtain⟨a,m,cap,rfl,hm,hml,hcell⟩:=hrow.form (by omega)
 rw[pcells_len]at hm
 have hml':maxLen=9223372036854775807:=rfl
 have hlen:M.loose.length=m:=by omega
 clear hm
 go_enter Tryz.func92,Tryz.ntmps92
 go_wp2
 go_loopw [5,13] (fun x y wr=>∃ i:Nat,y = .int .i64 i/\i<=m/\x = .int .i64 (DiskM.looseOf (M.loose.take i) n)/\Kept (fun _=>False) w wr) (fun _ y _=>m-(intOf y).toNat)
 case atStart=>exact⟨0,rfl,Nat.zero_le _,by simp[DiskM.looseOf],Kept.refl _ _⟩
 case round =>
  obtain⟨i,rfl,hi,rfl,hk⟩:=hrel
  have hrow':=hrow.kept hk (fun _ _=>id)
  have hle:=looseOf_take_le M.loose n i
  by_cases hlt:i<m
  ·obtain⟨g,rfl,hown,hcs⟩:=hcell (by omega)
   obtain⟨p,hp⟩:∃ p,M.loose[i]? = some p:=⟨M.loose[i],List.getElem?_eq_getElem (by omega)⟩
   obtain⟨hp0,hp1⟩:=pcells_get M.loose i p hp
   have q0:=hrow'.cellsAt hp0
   have q1:=hrow'.cellsAt hp1
   have hle1:=looseOf_take_le M.loose n (i+1)
   have hst:=looseOf_take M.loose n i p hp
   have HST:=Lib.hid hst
   have hx:decide (i<m)=true:=decide_eq_true hlt
   by_cases hpn:p.1=n
   ·have hx2:(p.1==n)=true:=by simpa using hpn
    rw[if_pos hpn]at hst
    have hle2:DiskM.looseOf (M.loose.take i) n+p.2<=1048576:=by omega
    have HPN:=Lib.hid hpn
    clear hst hp0 hp1 hp hcs hcell hpn
    go_wp2_with fail
    go_roundw
    case rel=>exact⟨i+1,by go_num,hlt,by rw[HST.out,if_pos HPN.out];go_num,hk.alloc _⟩
    case measure=>simp[intOf];omega
   ·have hx2:(p.1==n)=false:=by simpa using hpn
    have HPN:=Lib.hid hpn
    clear hst hp0 hp1 hp hcs hcell hpn
    go_wp2_with fail
    go_roundw
    case rel=>exact⟨i+1,by go_num,hlt,by rw[HST.out,if_neg HPN.out];go_num,hk.alloc _⟩
    case measure=>simp[intOf];omega
  ·have hx:decide (i<m)=false:=by simp;omega
   have:i=m:=by omega
   subst this
   have hall:M.loose.take i=M.loose:=List.take_of_length_le (by omega)
   clear hcell
   go_wp2_with fail
   go_ret
   exact⟨ret_int (by rw[hall]),hk⟩
theorem pcells_set (l:List (Int × Nat)) (i:Nat) (p:Int × Nat) (s:Nat) (h:l[i]? = some p):(pcells l).set (i*2+1) (.int .i64 (s:Int))=pcells (l.set i (p.1,s)):=by
 induction l generalizing i with
 | nil=>simp at h
 | cons a r ih =>
  have e:∀ a r,pcells (a::r)=[.int .i64 a.1,.int .i64 (a.2:Int)]++pcells r:=fun a r=>by simp[pcells]
  cases i with
  | zero=>simp at h;subst h;simp[pcells]
  | succ i =>
   have:=ih i (by simpa using h)
   rw[List.set_cons_succ,e,e,<- this,List.set_append_right _ _ (by simp;omega)]
   congr 2
   simp;omega
theorem Row.setAt {w:World} {e:TypeId} {size g n cap:Nat} {xs:List Value} (h:Row w e size (.slice (some ⟨g,0,none⟩) n cap) xs) {j:Nat} (hj:j<xs.length) (u:Value):Row (w.setCell ⟨g,j,none⟩ u) e size (.slice (some ⟨g,0,none⟩) n cap) (xs.set j u):=by
 rcases h with⟨h,_⟩|⟨g',n',cap',rest,hv,h1,hb,h2,h3,h4⟩
 ·cases h
 ·simp only[Value.slice.injEq,Option.some.injEq,Addr.mk.injEq,and_true]at hv
  obtain⟨rfl,rfl,rfl⟩:=hv
  refine Or.inr ⟨g,n,cap,rest,rfl,by rw[List.length_set];exact h1,?_,h2,by rw[List.length_set];exact h3,h4⟩
  have:=hb.set j u
  rwa[List.set_append_left _ _ hj]at this
theorem DiskRaw.setPiece {w:World} {mb g m cap:Nat} {fs:List (Int × Value)} (h:DiskRaw w d fp M mb (.slice (some ⟨g,0,none⟩) m cap) fs) {i:Nat} {p:Int × Nat} (hp:M.loose[i]? = some p) (s:Nat) :
  DiskRaw (w.setCell ⟨g,i*2+1,none⟩ (.int .i64 (s:Int))) d fp { M with loose:=M.loose.set i (p.1,s) } mb (.slice (some ⟨g,0,none⟩) m cap) fs:=by
 have hown:(Value.slice (some ⟨g,0,none⟩) m cap).ownBlock=some g:=rfl
 have hi:=(List.getElem?_eq_some_iff.1 hp).1
 refine⟨h.head.other (fun e=>h.loose.ne_blk hown h.head (by decide) e) _,h.map.other (fun e=>h.map.ne_row h.loose hown e) _,h.keys,fun n x b h1 h2=>(h.rows n x b h1 h2).other (fun e=>?_) _,h.apart,?_,h.fpd,h.fpm,h.fpl,h.fpf⟩
 ·obtain⟨c,hc⟩:=h.loose.blk hown
  exact(h.rows n x b h1 h2).ne_blk e hc (by decide) rfl
 ·have:=h.loose.setAt (j:=i*2+1) (by rw[pcells_len];omega) (.int .i64 (s:Int))
  rwa[pcells_set M.loose i p s hp]at this
theorem drop_any (w:World) (n:Int) (stay:Nat) (n0 : -9223372036854775808<=n/\n<=9223372036854775807) (hs:stay<=9223372036854775807) (hd:IsDisk w d fp M) :
  Calls Tryz.prog 93 #[.pointer (some ⟨d,0,none⟩),.int .i64 n,.int .i64 (stay:Int)] w fun e w'=>e = .returned (.tuple #[])/\IsDisk w' d fp { M with loose:=DiskM.dropL n M.loose stay }/\Kept fp w w':=by
 obtain⟨mb,lv,fs,h⟩:=hd
 have c1:=h.head.cell (i:=1) rfl
 have hrow:=h.loose
 have hcap:=DiskM.loose_le h.ok
 have hcap1:=h.ok.cap1
 obtain⟨a,m,cap,rfl,hm,hml,hcell⟩:=hrow.form (by omega)
 rw[pcells_len]at hm
 have hml':maxLen=9223372036854775807:=rfl
 have hlen:M.loose.length=m:=by omega
 have hokF:({ M with loose:=DiskM.dropL n M.loose stay } : DiskM).Ok:=by
  refine⟨h.ok.rise,h.ok.keys,h.ok.cap0,h.ok.cap1,h.ok.room,fun k=>?_,fun p hp=>?_,h.ok.left1,h.ok.left2,?_,h.ok.keepk⟩
  ·have:=h.ok.lo k
   show DiskM.looseOf (DiskM.dropL n M.loose stay) k<=((AM.get M.files k).getD []).length
   by_cases e:k=n
   ·subst e;rw[looseOf_dropL];omega
   ·rw[looseOf_dropL_other e];exact this
  ·obtain⟨q,h1,h2⟩:=dropL_mem hp
   rw[<- h2];exact h.ok.loks q h1
  ·show M.files.length+(DiskM.dropL n M.loose stay).length<=_
   rw[dropL_len];exact h.ok.count
 have HOK:=Lib.hid hokF
 clear hm hokF
 have hraw:=h.toDiskRaw
 have HC:=Lib.hid hcell
 clear hcell
 go_enter Tryz.func93,Tryz.ntmps93
 go_wp2
 go_loopw [2,13] (fun x y wr=>∃ i:Nat,y = .int .i64 i/\i<=m/\x = .int .i64 ((stay-DiskM.looseOf (M.loose.take i) n:Nat):Int)/\DiskRaw wr d fp { M with loose:=dropTo n M.loose stay i } mb (.slice a m cap) fs/\Kept fp w wr) (fun _ y _=>m-(intOf y).toNat)
 case atStart=>exact⟨0,rfl,Nat.zero_le _,by simp[DiskM.looseOf],by rw[dropTo_zero];exact hraw,Kept.refl _ _⟩
 case round =>
  obtain⟨i,rfl,hi,rfl,hr,hk⟩:=hrel
  have c1:=hr.head.cell (i:=1) rfl
  by_cases hlt:i<m
  ·obtain⟨g,rfl,hown,hcs⟩:=HC.out (by omega)
   obtain⟨p,hp⟩:∃ p,M.loose[i]? = some p:=⟨M.loose[i],List.getElem?_eq_getElem (by omega)⟩
   have hp':=dropTo_get n M.loose stay i p hp
   obtain⟨hp0,hp1⟩:=pcells_get _ i p hp'
   have q0:=hr.loose.cellsAt hp0
   have q1:=hr.loose.cellsAt hp1
   have q2:wr.frozen? ⟨g,i*2+1,none⟩=false:=hr.loose.free hown _
   have hx:decide (i<m)=true:=decide_eq_true hlt
   have hpc:(p.2:Int)<=1048576:=by have:=hcap p (List.mem_of_getElem? hp);omega
   have hst:=looseOf_take M.loose n i p hp
   have HST:=Lib.hid hst
   by_cases hpn:p.1=n
   ·have hx2:(p.1==n)=true:=by simpa using hpn
    have hset:=hr.setPiece hp' (min p.2 (stay-DiskM.looseOf (M.loose.take i) n))
    have HS:=Lib.hid (dropTo_succ_same n M.loose stay i p hp hpn)
    have HPN:=Lib.hid hpn
    have hq0:stay-DiskM.looseOf (M.loose.take i) n<=9223372036854775807:=by omega
    clear hst hp0 hp1 hp hp' hcs hpn
    generalize hq:stay-DiskM.looseOf (M.loose.take i) n=q at hset hq0 HS ⊢
    have HQ:=Lib.hid hq
    clear hq
    by_cases hm:q<p.2
    ·have hm2:decide (q<p.2)=true:=decide_eq_true hm
     rw[Nat.min_eq_right (Nat.le_of_lt hm)]at hset HS
     go_wp2_with fail
     go_roundw
     case rel =>
      refine⟨i+1,by go_num,hlt,?_,?_,?_⟩
      ·rw[HST.out,if_pos HPN.out];have:=HQ.out;congr 1;omega
      ·rw[HS.out];exact hset
      ·exact hk.setCell (fun _=>hr.fpl g rfl) _
     case measure=>simp[intOf];omega
    ·have hm2:decide (q<p.2)=false:=by simpa using hm
     rw[Nat.min_eq_left (Nat.le_of_not_lt hm)]at hset HS
     go_wp2_with fail
     go_roundw
     case rel =>
      refine⟨i+1,by go_num,hlt,?_,?_,?_⟩
      ·rw[HST.out,if_pos HPN.out];have:=HQ.out;congr 1;omega
      ·rw[HS.out];exact hset
      ·exact hk.setCell (fun _=>hr.fpl g rfl) _
     case measure=>simp[intOf];omega
   ·have hx2:(p.1==n)=false:=by simpa using hpn
    have HS:=Lib.hid (dropTo_succ_other n M.loose stay i p hp hpn)
    have HPN:=Lib.hid hpn
    clear hst hp0 hp1 hp hp' hcs hpn
    go_wp2_with fail
    go_roundw
    case rel=>exact⟨i+1,by go_num,hlt,by rw[HST.out,if_neg HPN.out];go_num,by rw[HS.out];exact hr,hk⟩
    case measure=>simp[intOf];omega
  ·have hx:decide (i<m)=false:=by simp;omega
   have:i=m:=by omega
   subst this
   go_wp2_with fail
   go_end0
   rw[dropTo_all n M.loose stay i (by omega)]at hr
   exact⟨rfl,⟨mb,_,fs,hr,HOK.out⟩,hk⟩
end
section
variable {w w' : World} {d mb : Nat} {fp : Nat → Prop} {M : DiskM} {lv : Value} {fs : List (Int × Value)}
theorem Row.head3 {a:Option Addr} {n cap:Nat} {b:List UInt8} (h:Row w 5 1 (.slice a n cap) (bcells b)) (m:Nat) (hm:m<=n) (x:Int) (hx:x=m) :
  (Instr.slice 72 (.slice a n cap) none (some (.int .i64 x)) (some (.int .i64 x))).run Tryz.prog w = .ok (.slice a m m) w/\Row w 5 1 (.slice a m m) (bcells (b.take m)):=by
 subst hx
 have hsz:(sizeOf (Tryz.prog.elem 72)).run Tryz.prog w = .ok 1 w:=by kernel_rfl
 have hcap:n<=cap:=by
  rcases h with⟨h,_⟩|⟨g,n',cap',rest,hv,_,_,h2,_⟩
  ·cases h;exact Nat.le_refl _
  ·simp only[Value.slice.injEq]at hv;omega
 have hs:=run_slice_hm (P:=Tryz.prog) (w:=w) 72 a n cap (by kernel_rfl) .i64 .i64 (m:Int) (m:Int) (by omega) (by omega) (by omega)
 rw[hsz]at hs
 simp only[Result.andThen,sliced]at hs
 have ea:∀ c:Nat,(if c=0 then a else a.map (·.add (0*1)))=a:=by
  intro c
  split
  ·rfl
  ·cases a<;>simp[Addr.add]
 refine⟨by rw[hs,ea];simp,?_⟩
 rcases h with⟨h,hb⟩|⟨g,n',cap',rest,hv,h1,h2⟩
 ·cases h
  have:m=0:=by omega
  subst this
  exact Or.inl ⟨rfl,by simp[bcells]⟩
 ·have hrow:Row w 5 1 (.slice a n cap) (bcells b):=Or.inr ⟨g,n',cap',rest,hv,h1,h2⟩
  simp only[Value.slice.injEq]at hv
  obtain⟨rfl,rfl,rfl⟩:=hv
  have:=hrow.shorter3 m hm
  rw[Nat.mul_one]at this
  have e:bcells (b.take m)=(bcells b).take m:=by simp[bcells,List.map_take]
  rw[e];exact this
end
section
variable {d : Nat} {fp : Nat → Prop} {M : DiskM}
theorem drop_int (w:World) (n stay:Int) (n0 : -9223372036854775808<=n/\n<=9223372036854775807) (hs:0<=stay/\stay<=9223372036854775807) (hd:IsDisk w d fp M) :
  Calls Tryz.prog 93 #[.pointer (some ⟨d,0,none⟩),.int .i64 n,.int .i64 stay] w fun e w'=>e = .returned (.tuple #[])/\IsDisk w' d fp { M with loose:=DiskM.dropL n M.loose stay.toNat }/\Kept fp w w':=by
 obtain⟨k,rfl⟩:=Int.eq_ofNat_of_zero_le hs.1
 exact drop_any w n k n0 (by omega) hd
theorem truncate_err (w:World) (n size:Int) (n0 : -9223372036854775808<=n/\n<=9223372036854775807) (hd:IsDisk w d fp M) (he:M.has n≠0) :
  Calls Tryz.prog 60 #[.pointer (some ⟨d,0,none⟩),.int .i64 n,.int .i64 size] w fun e w'=>e = .returned (.int .i64 (M.has n))/\w=w':=by
 rcases M.has_cases n with⟨h,_⟩|⟨h,_⟩|⟨h,_⟩
 ·exact absurd h he
 all_goals
  have hc:=has_any w n n0 hd
  rw[h]at hc ⊢
  clear he h
  go_enter Tryz.func60,Tryz.ntmps60
  go_wp2_with (go_at_call 29;refine hc.mono ?_;rintro e w' ⟨rfl,rfl⟩)
  go_ret
  exact⟨rfl,rfl⟩
theorem truncate_arg (w:World) (n size:Int) (n0 : -9223372036854775808<=n/\n<=9223372036854775807) (b:List UInt8) (hd:IsDisk w d fp M) (hdn:M.down=false) (hb:AM.get M.files n=some b) (hs:size<0\/(b.length:Int)<size) :
  Calls Tryz.prog 60 #[.pointer (some ⟨d,0,none⟩),.int .i64 n,.int .i64 size] w fun e w'=>e = .returned (.int .i64 2)/\w=w':=by
 have hh:=has_any w n n0 hd
 have he:M.has n=0:=by simp[DiskM.has,hdn,hb]
 rw[he]at hh
 obtain⟨mb,lv,fs,h⟩:=hd
 have c0:=h.head.cell (i:=0) rfl
 obtain⟨v,hv⟩:=h.get_some hb
 have hl:=h.map.look (t:=75) (e:=72) Tryz.underlying3 Tryz.underlying75 (zeroBytes w) n0
 rw[hv,Option.getD_some]at hl
 obtain⟨a,m,cap,rfl,hm,_⟩:=(h.rows n v b hv hb).form (by omega)
 rw[bcells_len]at hm
 by_cases hneg:size<0
 ·have x1:decide (size<0)=true:=decide_eq_true hneg
  clear hm hb hv he hdn
  go_enter Tryz.func60,Tryz.ntmps60
  go_wp2_with (go_at_call 29;refine hh.mono ?_;rintro e w' ⟨rfl,rfl⟩)
  go_ret
  exact⟨rfl,rfl⟩
 ·have x1:decide (size<0)=false:=by simpa using hneg
  have x2:decide ((m:Int)<size)=true:=by simp;omega
  clear hm hb hv he hdn
  go_enter Tryz.func60,Tryz.ntmps60
  go_wp2_with (go_at_call 29;refine hh.mono ?_;rintro e w' ⟨rfl,rfl⟩)
  go_ret
  exact⟨rfl,rfl⟩
theorem truncate_sinks (w:World) (n:Int) (size:Nat) (n0 : -9223372036854775808<=n/\n<=9223372036854775807) (b:List UInt8) (hd:IsDisk w d fp M) (hl:M.Live) (hdn:M.down=false) (hb:AM.get M.files n=some b) (hs:size<=b.length) (hsk:M.sinks=true) :
  Calls Tryz.prog 60 #[.pointer (some ⟨d,0,none⟩),.int .i64 n,.int .i64 (size:Int)] w fun e w'=>e = .returned (.int .i64 61)/\IsDisk w' d fp M.sunk/\Kept fp w w':=by
 have hh:=has_any w n n0 hd
 have he:M.has n=0:=by simp[DiskM.has,hdn,hb]
 rw[he]at hh
 have hsn:=sinks_any w hd hl
 rw[hsk]at hsn
 have hfd:=hd.fpd
 have hk0:=DiskM.tick_keep M
 have hd0:=DiskM.tick_down M
 rw[hdn]at hd0
 have HE:Hid (M.tick.crash M.tick.keep=M.sunk):=Lib.hid (by rw[hk0];rfl)
 obtain⟨mb,lv,fs,h⟩:=hd
 have c0:=h.head.cell (i:=0) rfl
 obtain⟨v,hv⟩:=h.get_some hb
 have hlk:=h.map.look (t:=75) (e:=72) Tryz.underlying3 Tryz.underlying75 (zeroBytes w) n0
 rw[hv,Option.getD_some]at hlk
 obtain⟨a,m,cap,rfl,hm,_⟩:=(h.rows n v b hv hb).form (by omega)
 rw[bcells_len]at hm
 have x1:decide ((size:Int)<0)=false:=by simp
 have x2:decide (m<size)=false:=by simp;omega
 have x3:decide ((m:Int)<(size:Int))=false:=by simp;omega
 clear hm hb hv he hdn hsk hk0
 go_enter Tryz.func60,Tryz.ntmps60
 go_wp2_with (first|(go_at_call 29;refine hh.mono ?_;rintro e w' ⟨rfl,rfl⟩)|(go_at_call 30;refine hsn.mono ?_;rintro e w1 ⟨rfl,hd1,hk1⟩)|(go_at_call 31;refine(sink_up _ hd1 hd0).mono ?_;rintro e w2 ⟨rfl,hd2,hk2⟩))
 go_ret
 exact⟨rfl,by rw[<- HE.out];exact hd2,(hk1.head hfd).trans hk2⟩
theorem truncate_ok (w:World) (n:Int) (size:Nat) (n0 : -9223372036854775808<=n/\n<=9223372036854775807) (b:List UInt8) (hd:IsDisk w d fp M) (hl:M.Live) (hdn:M.down=false) (hb:AM.get M.files n=some b) (hs:size<=b.length) (hsk:M.sinks=false) :
  Calls Tryz.prog 60 #[.pointer (some ⟨d,0,none⟩),.int .i64 n,.int .i64 (size:Int)] w fun e w'=>e = .returned (.int .i64 0)/\DiskTo d fp (M.tick.truncated n size) w w':=by
 have hh:=has_any w n n0 hd
 have he:M.has n=0:=by simp[DiskM.has,hdn,hb]
 rw[he]at hh
 have hsn:=sinks_any w hd hl
 rw[hsk]at hsn
 have hfd:=hd.fpd
 have hbl:=DiskM.len_le_total hd.ok hb
 have hroom:=hd.ok.room
 have hc1:=hd.ok.cap1
 have hlo:=hd.ok.lo n
 rw[hb,Option.getD_some]at hlo
 have hbt:AM.get M.tick.files n=some b:=by rw[DiskM.tick_files];exact hb
 have hlt:=DiskM.tick_loose M
 have hokF:(M.tick.truncated n size).Ok:=(hd.ok.tick hl).truncated hbt size hs
 have hFe:M.tick.truncated n size = { M.tick with files:=AM.set M.tick.files n (b.take size),loose:=DiskM.dropL n M.tick.loose (size-(b.length-DiskM.looseOf M.loose n)) }:=by
  unfold DiskM.truncated
  rw[hbt,hlt]
  rfl
 have H:=Lib.hid (And.intro hokF (And.intro hFe hbt))
 obtain⟨mb,lv,fs,h⟩:=hd
 have c0:=h.head.cell (i:=0) rfl
 obtain⟨v,hv⟩:=h.get_some hb
 have hlk:=h.map.look (t:=75) (e:=72) Tryz.underlying3 Tryz.underlying75 (zeroBytes w) n0
 rw[hv,Option.getD_some]at hlk
 obtain⟨a,m,cap,rfl,hm,_⟩:=(h.rows n v b hv hb).form (by omega)
 rw[bcells_len]at hm
 have x1:decide ((size:Int)<0)=false:=by simp
 have x2:decide (m<size)=false:=by simp;omega
 have x3:decide ((m:Int)<(size:Int))=false:=by simp;omega
 have HM:=Lib.hid hm
 clear hm hb hv he hdn hsk hlt hokF hFe hbt
 go_enter Tryz.func60,Tryz.ntmps60
 go_wp2_with (first|(go_at_call 29;refine hh.mono ?_;rintro e w' ⟨rfl,rfl⟩)|(go_at_call 30;refine hsn.mono ?_;rintro e w1 ⟨rfl,hd1,hk1⟩))
 have hd1':=hd1
 obtain⟨mb1,lv1,fs1,h1⟩:=hd1
 have c01:=h1.head.cell (i:=0) rfl
 obtain⟨v1,hv1⟩:=h1.get_some H.out.2.2
 obtain⟨a1,m1,cap1,rfl,hm1,_⟩:=(h1.rows n v1 b hv1 H.out.2.2).form (by omega)
 rw[bcells_len]at hm1
 have HM1:=Lib.hid hm1
 have HSA:∀ w',Kept (fun _=>False) w1 w'->w'.cell? ⟨d,0,none⟩=some (.map (some mb1))/\(Instr.lookup 75 (.map (some mb1)) (.int .i64 n) false).run Tryz.prog w' = .ok (.slice a1 m1 cap1) w':=by
  intro w' hk
  have h1':=h1.kept hk (fun _ _=>id)
  refine⟨h1'.head.cell (i:=0) rfl,?_⟩
  have:=h1'.map.look (t:=75) (e:=72) Tryz.underlying3 Tryz.underlying75 (zeroBytes w') n0
  rwa[hv1,Option.getD_some]at this
 have HSA:=Lib.hid HSA
 have hS0:=HSA.out _ (Kept.refl _ _).drew
 have hkall:DiskM.looseOf M.tick.loose n<=b.length:=by rw[DiskM.tick_loose];exact hlo
 have hm1':m1=b.length:=by omega
 have hml1:m1<=1048576:=by omega
 clear hm1
 obtain⟨sure,hsure⟩:∃ sure:Nat,b.length-DiskM.looseOf M.loose n=sure:=⟨_,rfl⟩
 have hwr:IntKind.i64.wrap ((m1:Int)-(DiskM.looseOf M.tick.loose n:Int))=(sure:Int):=by
  have:DiskM.looseOf M.tick.loose n=DiskM.looseOf M.loose n:=by rw[DiskM.tick_loose]
  rw[IntWalk.i64_in _ (by omega)];omega
 have HM2:=Lib.hid (And.intro hm1' hsure)
 have hsl:sure<=1048576:=by omega
 clear hm1' hsure
 go_region_held3 (fun w'=>w'.cell? ⟨d,0,none⟩=some (.map (some mb1))/\(Instr.lookup 75 (.map (some mb1)) (.int .i64 n) false).run Tryz.prog w' = .ok (.slice a1 m1 cap1) w') (first|exact hS0|exact hSX) (first|(go_at_call 92;refine(of_any _ n n0 (hd1'.drew)).mono ?_;rintro e wX ⟨rfl,hkX⟩;have hSX:=HSA.out _ (((Kept.refl _ _).drew).trans hkX)))
 all_goals
  obtain⟨mb2,lv2,fs2,h2⟩:=hd1'.kept (((Kept.refl _ _).drew).trans hkX) (fun _ _=>id)
  have hd2:IsDisk wX d fp M.tick:=⟨mb2,lv2,fs2,h2⟩
  rcases Nat.lt_or_ge size sure with hgt|hge
  ·have y1:decide (size<sure)=true:=decide_eq_true hgt
   go_wp2_with fail
   refine(drop_int _ n _ n0 (by omega) hd2).mono ?_
   rintro e w3 ⟨rfl,hd3,hk3⟩
   obtain⟨mb3,lv3,fs3,h3⟩:=hd3
   have c03:=h3.head.cell (i:=0) rfl
   obtain⟨v3,hv3⟩:=h3.get_some H.out.2.2
   have hrow3:=h3.rows n v3 b hv3 H.out.2.2
   obtain⟨a3,m3,cap3,rfl,hm3,_⟩:=hrow3.form (by omega)
   rw[bcells_len]at hm3
   obtain⟨hsl3,hrow4⟩:=(hrow3.drew).head3 size (by omega) (size:Int) rfl
   have hlk3:=h3.map.drew.look (t:=75) (e:=72) Tryz.underlying3 Tryz.underlying75 (zeroBytes w3.drew) n0
   rw[hv3,Option.getD_some]at hlk3
   have hcnt:=h3.ok.count
   have hle3:=h3.toDiskRaw.len_eq h3.ok.rise
   have hmx:maxLen=9223372036854775807:=rfl
   have hroomy:fs3.length<maxLen:=by rw[hle3,hmx];have:M.tick.files.length+(DiskM.dropL n M.tick.loose ((0:Int)).toNat).length<=400000000:=hcnt;show M.tick.files.length<_;omega
   obtain⟨w4,hst4,hm4,hk4,hs4⟩:=h3.map.drew.store (t:=75) (e:=72) Tryz.underlying3 Tryz.underlying75 hroomy (a:=n) n0 (.slice a3 size size)
   have hre:=(h3.toDiskRaw.kept (S:=fun _=>False) (Kept.refl _ _).drew (fun _ _=>id)).refile h3.ok.rise hv3 H.out.2.2 hm4 (hk4.mono (fun _ _=>Or.inl)) (hrow4.kept hk4 (fun k hk e=>h3.map.drew.ne_row hrow4 hk e)) (fun k hk=>Or.inl (by cases a3 with
    | none=>cases hk
    | some _=>exact hk))
   have hfm:=h3.fpm
   have hend:Hid (DiskTo d fp (M.tick.truncated n size) w w4):=by
    refine Lib.hid ⟨fun k=>fp k\/w3.drew.heap.size<=k,⟨mb3,lv3,AM.set fs3 n (.slice a3 size size),?_,H.out.1⟩,?_,?_⟩
    ·rw[H.out.2.1]
     have:=HM2.out.2
     rw[show size-(b.length-DiskM.looseOf M.loose n)=(0:Int).toNat by omega]
     exact hre
    ·exact(((hk1.head hfd).then_ (((Kept.refl _ _).drew).trans hkX) (fun _ _=>False.elim)).trans hk3).then_ (((Kept.refl _ _).drew).then_ hk4 (fun _ _=>id)) (fun i _ e=>by rw[e];exact hfm)
    ·rintro k (q|q)
     ·exact Or.inl q
     ·refine Or.inr ?_
      have q1:=hk1.size
      have q2:=hkX.size
      have q3:=hk3.size
      have q4:w1.drew.heap.size=w1.heap.size:=rfl
      have q5:w3.drew.heap.size=w3.heap.size:=rfl
      omega
   clear hm3 hle3 hcnt hre hm4
   go_wp2_with fail
   refine wp_region_tail 14 (by kernel_rfl) (by kernel_rfl) ?_
   simp only[List.take_succ_cons,List.take_zero,List.drop_succ_cons,List.drop_zero]
   repeat still_step
   refine wpStill_nil ?_
   go_wp2_with fail
   go_ret
   exact⟨rfl,hend.out⟩
  ·have y1:decide (size<sure)=false:=by simpa using hge
   have y2:¬ size<sure:=by omega
   go_wp2_with fail
   refine(drop_int _ n _ n0 (by omega) hd2).mono ?_
   rintro e w3 ⟨rfl,hd3,hk3⟩
   obtain⟨mb3,lv3,fs3,h3⟩:=hd3
   have c03:=h3.head.cell (i:=0) rfl
   obtain⟨v3,hv3⟩:=h3.get_some H.out.2.2
   have hrow3:=h3.rows n v3 b hv3 H.out.2.2
   obtain⟨a3,m3,cap3,rfl,hm3,_⟩:=hrow3.form (by omega)
   rw[bcells_len]at hm3
   obtain⟨hsl3,hrow4⟩:=(hrow3.drew).head3 size (by omega) (size:Int) rfl
   have hlk3:=h3.map.drew.look (t:=75) (e:=72) Tryz.underlying3 Tryz.underlying75 (zeroBytes w3.drew) n0
   rw[hv3,Option.getD_some]at hlk3
   have hcnt:=h3.ok.count
   have hle3:=h3.toDiskRaw.len_eq h3.ok.rise
   have hmx:maxLen=9223372036854775807:=rfl
   have hroomy:fs3.length<maxLen:=by rw[hle3,hmx];have:M.tick.files.length+(DiskM.dropL n M.tick.loose (((size:Int)-(sure:Int):Int)).toNat).length<=400000000:=hcnt;show M.tick.files.length<_;omega
   obtain⟨w4,hst4,hm4,hk4,hs4⟩:=h3.map.drew.store (t:=75) (e:=72) Tryz.underlying3 Tryz.underlying75 hroomy (a:=n) n0 (.slice a3 size size)
   have hre:=(h3.toDiskRaw.kept (S:=fun _=>False) (Kept.refl _ _).drew (fun _ _=>id)).refile h3.ok.rise hv3 H.out.2.2 hm4 (hk4.mono (fun _ _=>Or.inl)) (hrow4.kept hk4 (fun k hk e=>h3.map.drew.ne_row hrow4 hk e)) (fun k hk=>Or.inl (by cases a3 with
    | none=>cases hk
    | some _=>exact hk))
   have hfm:=h3.fpm
   have hend:Hid (DiskTo d fp (M.tick.truncated n size) w w4):=by
    refine Lib.hid ⟨fun k=>fp k\/w3.drew.heap.size<=k,⟨mb3,lv3,AM.set fs3 n (.slice a3 size size),?_,H.out.1⟩,?_,?_⟩
    ·rw[H.out.2.1]
     have:=HM2.out.2
     rw[show size-(b.length-DiskM.looseOf M.loose n)=((size:Int)-(sure:Int)).toNat by omega]
     exact hre
    ·exact(((hk1.head hfd).then_ (((Kept.refl _ _).drew).trans hkX) (fun _ _=>False.elim)).trans hk3).then_ (((Kept.refl _ _).drew).then_ hk4 (fun _ _=>id)) (fun i _ e=>by rw[e];exact hfm)
    ·rintro k (q|q)
     ·exact Or.inl q
     ·refine Or.inr ?_
      have q1:=hk1.size
      have q2:=hkX.size
      have q3:=hk3.size
      have q4:w1.drew.heap.size=w1.heap.size:=rfl
      have q5:w3.drew.heap.size=w3.heap.size:=rfl
      omega
   clear hm3 hle3 hcnt hre hm4
   go_wp2_with fail
   refine wp_region_tail 14 (by kernel_rfl) (by kernel_rfl) ?_
   simp only[List.take_succ_cons,List.take_zero,List.drop_succ_cons,List.drop_zero]
   repeat still_step
   refine wpStill_nil ?_
   go_wp2_with fail
   go_ret
   exact⟨rfl,hend.out⟩
theorem truncate_to (w:World) (n size:Int) (n0 : -9223372036854775808<=n/\n<=9223372036854775807) (hd:IsDisk w d fp M) (hl:M.Live) :
  Calls Tryz.prog 60 #[.pointer (some ⟨d,0,none⟩),.int .i64 n,.int .i64 size] w fun e w'=>e = .returned (.int .i64 (M.truncate n size).1)/\DiskTo d fp (M.truncate n size).2 w w':=by
 rcases M.has_cases n with⟨h0,hdn,b,hb⟩|⟨h0,_⟩|⟨h0,_⟩
 ·have hg:(AM.get M.files n).getD []=b:=by rw[hb];rfl
  by_cases hs:size<0\/(b.length:Int)<size
  ·have e:M.truncate n size=(2,M):=by
    unfold DiskM.truncate
    rw[if_neg (by simp[h0]),if_pos (by rw[hg];exact hs)]
   rw[e]
   refine(truncate_arg w n size n0 b hd hdn hb hs).mono ?_
   rintro e w' ⟨rfl,rfl⟩
   exact⟨rfl,DiskTo.same hd⟩
  ·obtain⟨k,rfl⟩:=Int.eq_ofNat_of_zero_le (show 0<=size by omega)
   cases hsk:M.sinks
   ·have e:M.truncate n k=(0,M.tick.truncated n k):=by
     unfold DiskM.truncate
     rw[if_neg (by simp[h0]),if_neg (by rw[hg];exact hs),if_neg (by simp[hsk])]
     rfl
    rw[e]
    exact truncate_ok w n k n0 b hd hl hdn hb (by omega) hsk
   ·have e:M.truncate n k=(61,M.sunk):=by
     unfold DiskM.truncate
     rw[if_neg (by simp[h0]),if_neg (by rw[hg];exact hs),if_pos hsk]
    rw[e]
    refine(truncate_sinks w n k n0 b hd hl hdn hb (by omega) hsk).mono ?_
    rintro e w' ⟨rfl,h1,h2⟩
    exact⟨rfl,fp,h1,h2,fun _=>Or.inl⟩
 all_goals
  have e:M.truncate n size=(M.has n,M):=by
   unfold DiskM.truncate
   rw[if_pos (by rw[h0];decide)]
  rw[e]
  refine(truncate_err w n size n0 hd (by rw[h0];decide)).mono ?_
  rintro e w' ⟨rfl,rfl⟩
  exact⟨rfl,DiskTo.same hd⟩
theorem DiskM.Live.truncate (hl:M.Live) (n size:Int):(M.truncate n size).2.Live:=by
 unfold DiskM.truncate
 split
 ·exact hl
 split
 ·exact hl
 split
 ·exact DiskM.Live.sunk
 ·rename_i h
  exact DiskM.Live.tick hl (by simpa using h)
end
section
variable {w0 w w' : World} {B : Nat → Prop} {d : Nat} {M M' : DiskM} {r : Int}
end
def Apart (B:Nat->Prop) (d:Nat) (M:DiskM) (w:World):Prop:=M.Live/\(∀ k,B k->k<w.heap.size)/\∃ fp,IsDisk w d fp M/\∀ k,fp k->¬ B k
section
variable {w w' : World} {B B' S : Nat → Prop} {d : Nat} {M M' : DiskM} {r : Int}
theorem Apart.ok (h:Apart B d M w):M.Ok:=by obtain⟨_,_,fp,h1,_⟩:=h;exact h1.ok
theorem Apart.lt (h:Apart B d M w) {k:Nat} (hk:B k):k<w.heap.size:=h.2.1 k hk
theorem Apart.grow (h:Apart B d M w) (hk:Kept S w w') (hS:∀ k,k<w.heap.size->S k->B k) (hB:∀ k,B' k->B k\/(w.heap.size<=k/\k<w'.heap.size)):Apart B' d M w':=by
 obtain⟨hl,hb,fp,h1,h2⟩:=h
 refine⟨hl,fun k hk'=>?_,fun k=>fp k/\k<w.heap.size,h1.low.kept hk (fun x hx hs=>h2 x hx.1 (hS x hx.2 hs)),fun k hx hk'=>?_⟩
 ·rcases hB k hk' with q|q
  ·exact Nat.lt_of_lt_of_le (hb k q) hk.size
  ·exact q.2
 ·rcases hB k hk' with q|q
  ·exact h2 k hx.1 q
  ·have:=hx.2;omega
theorem Apart.same (h:Apart B d M w) (hk:Kept (fun _=>False) w w'):Apart B d M w':=h.grow hk (fun _ _=>False.elim) (fun _=>Or.inl)
theorem Apart.turn (h:Apart B d M w) (hk:Kept S w w') (hS:∀ k,S k->B k):Apart B d M w':=h.grow hk (fun k _=>hS k) (fun _=>Or.inl)
theorem Apart.fewer (h:Apart B d M w) (hB:∀ k,B' k->B k):Apart B' d M w:=h.grow (S:=fun _=>False) (Kept.refl _ _) (fun _ _=>False.elim) (fun k q=>Or.inl (hB k q))
theorem Apart.next {fp:Nat->Prop} (hl:M'.Live) (hb:∀ k,B k->k<w.heap.size) (hf:∀ k,fp k->¬ B k) (h:DiskTo d fp M' w w'):Apart B d M' w'/\Kept (fun k=>¬ B k) w w':=by
 obtain⟨fp',h1,h2,h3⟩:=h
 exact⟨⟨hl,fun k hk=>Nat.lt_of_lt_of_le (hb k hk) h2.size,fp',h1,fun k hk=>(h3 k hk).elim (hf k) (fun q hb'=>by have:=hb k hb';omega)⟩,h2.mono (fun k _ q=>hf k q)⟩
theorem Apart.made (w:World) {e:Ending} {cap:Int} (h:NewDisk cap w e w'):∃ d,e = .returned (.tuple #[.pointer (some ⟨d,0,none⟩),.int .i64 0])/\Apart (fun k=>k<w.heap.size) d (DiskM.new cap) w'/\Kept (fun _=>False) w w':=by
 obtain⟨d,fp,h1,h2,h3,h4⟩:=h
 exact⟨d,h1,⟨(fun h=>by cases h),fun k hk=>Nat.lt_of_lt_of_le hk h3.size,fp,h2,fun k q=>by have:=h4 k q;omega⟩,h3⟩
theorem create_ap (h:Apart B d M w) (n:Int) (n0 : -9223372036854775808<=n/\n<=9223372036854775807) (hc:M.files.length+M.loose.length<300000000) (he:M.create n=(r,M')) :
  Calls Tryz.prog 10 #[.pointer (some ⟨d,0,none⟩),.int .i64 n] w fun e w'=>e = .returned (.int .i64 r)/\Apart B d M' w'/\Kept (fun k=>¬ B k) w w':=by
 obtain⟨hl,hb,fp,h1,h2⟩:=h
 have hl':=DiskM.Live.create hl n
 refine(create_to w n n0 h1 hl hc).mono ?_
 rw[he]at hl' ⊢
 rintro e w' ⟨rfl,hto⟩
 exact⟨rfl,Apart.next hl' hb h2 hto⟩
theorem append_ap (h:Apart B d M w) (n:Int) (n0 : -9223372036854775808<=n/\n<=9223372036854775807) (s:ByteArray) (hc:M.files.length+M.loose.length<300000000) (he:M.append n s.data.toList=(r,M')) :
  Calls Tryz.prog 12 #[.pointer (some ⟨d,0,none⟩),.int .i64 n,.string s] w fun e w'=>e = .returned (.int .i64 r)/\Apart B d M' w'/\Kept (fun k=>¬ B k) w w':=by
 obtain⟨hl,hb,fp,h1,h2⟩:=h
 have hl':=DiskM.Live.append hl n s.data.toList
 refine(append_to w n n0 s h1 hl hc).mono ?_
 rw[he]at hl' ⊢
 rintro e w' ⟨rfl,hto⟩
 exact⟨rfl,Apart.next hl' hb h2 hto⟩
theorem sync_ap (h:Apart B d M w) (he:M.sync=(r,M')) :
  Calls Tryz.prog 78 #[.pointer (some ⟨d,0,none⟩)] w fun e w'=>e = .returned (.int .i64 r)/\Apart B d M' w'/\Kept (fun k=>¬ B k) w w':=by
 obtain⟨hl,hb,fp,h1,h2⟩:=h
 have hl':=DiskM.Live.sync hl
 refine(sync_any w h1 hl).mono ?_
 rw[he]at hl' ⊢
 rintro e w' ⟨rfl,hto⟩
 exact⟨rfl,Apart.next hl' hb h2 hto⟩
theorem crash_ap (h:Apart B d M w) (keep:Int) (k0 : -9223372036854775808<=keep/\keep<=9223372036854775807) (he:M.crashR keep=(r,M')) :
  Calls Tryz.prog 54 #[.pointer (some ⟨d,0,none⟩),.int .i64 keep] w fun e w'=>e = .returned (.int .i64 r)/\Apart B d M' w'/\Kept (fun k=>¬ B k) w w':=by
 obtain⟨hl,hb,fp,h1,h2⟩:=h
 have hl':=DiskM.Live.crashR hl keep
 refine(crash_to w keep k0 h1).mono ?_
 rw[he]at hl' ⊢
 rintro e w' ⟨rfl,hto⟩
 exact⟨rfl,Apart.next hl' hb h2 hto⟩
theorem start_ap (h:Apart B d M w) (hs:0<=M.starts/\M.starts<9223372036854775807) (he:M.startR=(r,M')) :
  Calls Tryz.prog 56 #[.pointer (some ⟨d,0,none⟩)] w fun e w'=>e = .returned (.int .i64 r)/\Apart B d M' w'/\Kept (fun k=>¬ B k) w w':=by
 obtain⟨hl,hb,fp,h1,h2⟩:=h
 have hl':=DiskM.Live.startR hl
 refine(start_to w h1 hs).mono ?_
 rw[he]at hl' ⊢
 rintro e w' ⟨rfl,hto⟩
 exact⟨rfl,Apart.next hl' hb h2 hto⟩
theorem fail_ap (h:Apart B d M w) (n keep:Int) (n0 : -9223372036854775808<=n/\n<=9223372036854775807) (k0 : -9223372036854775808<=keep/\keep<=9223372036854775807) (he:M.failR n keep=(r,M')) :
  Calls Tryz.prog 58 #[.pointer (some ⟨d,0,none⟩),.int .i64 n,.int .i64 keep] w fun e w'=>e = .returned (.int .i64 r)/\Apart B d M' w'/\Kept (fun k=>¬ B k) w w':=by
 obtain⟨hl,hb,fp,h1,h2⟩:=h
 have hl':=DiskM.Live.failR hl n keep
 refine(fail_to w n keep n0 k0 h1).mono ?_
 rw[he]at hl' ⊢
 rintro e w' ⟨rfl,hto⟩
 exact⟨rfl,Apart.next hl' hb h2 hto⟩
theorem truncate_ap (h:Apart B d M w) (n size:Int) (n0 : -9223372036854775808<=n/\n<=9223372036854775807) (he:M.truncate n size=(r,M')) :
  Calls Tryz.prog 60 #[.pointer (some ⟨d,0,none⟩),.int .i64 n,.int .i64 size] w fun e w'=>e = .returned (.int .i64 r)/\Apart B d M' w'/\Kept (fun k=>¬ B k) w w':=by
 obtain⟨hl,hb,fp,h1,h2⟩:=h
 have hl':=DiskM.Live.truncate hl n size
 refine(truncate_to w n size n0 h1 hl).mono ?_
 rw[he]at hl' ⊢
 rintro e w' ⟨rfl,hto⟩
 exact⟨rfl,Apart.next hl' hb h2 hto⟩
theorem up_ap (h:Apart B d M w) {b:Bool} (he:(!M.down)=b) :
  Calls Tryz.prog 37 #[.pointer (some ⟨d,0,none⟩)] w fun e w'=>e = .returned (.bool b)/\w=w':=by
 obtain⟨_,_,fp,h1,_⟩:=h
 rw[<- he]
 exact up_any w h1
def DiskM.sizeR (M:DiskM) (n:Int):Int × Int:=if M.has n=0 then((((AM.get M.files n).getD []).length:Nat),0)else(0,M.has n)
theorem size_ap (h:Apart B d M w) (n:Int) (n0 : -9223372036854775808<=n/\n<=9223372036854775807) {a b:Int} (he:M.sizeR n=(a,b)) :
  Calls Tryz.prog 38 #[.pointer (some ⟨d,0,none⟩),.int .i64 n] w fun e w'=>e = .returned (.tuple #[.int .i64 a,.int .i64 b])/\w=w':=by
 obtain⟨_,_,fp,h1,_⟩:=h
 rcases M.has_cases n with⟨h0,hdn,x,hb⟩|⟨h0,_⟩|⟨h0,_⟩
 ·have e:M.sizeR n=((x.length:Int),0):=by simp[DiskM.sizeR,h0,hb]
  rw[e]at he
  cases he
  exact size_ok w n n0 x h1 hdn hb
 all_goals
  have e:M.sizeR n=(0,M.has n):=by simp[DiskM.sizeR,h0]
  rw[e]at he
  cases he
  exact size_err w n n0 h1 (by rw[h0];decide)
theorem read_ap (h:Apart B d M w) (n:Int) (n0 : -9223372036854775808<=n/\n<=9223372036854775807) (pos size:Nat) (b:List UInt8) (hdn:M.down=false) (hb:AM.get M.files n=some b) (hle:pos+size<=b.length) :
  Calls Tryz.prog 52 #[.pointer (some ⟨d,0,none⟩),.int .i64 n,.int .i64 pos,.int .i64 size] w fun e w'=>e = .returned (.tuple #[.string ⟨((b.drop pos).take size).toArray⟩,.int .i64 0])/\w=w':=by
 obtain⟨_,_,fp,h1,_⟩:=h
 exact read_ok w n pos size n0 b h1 hdn hb hle
theorem starts_any (w:World) {fp:Nat->Prop} (hd:IsDisk w d fp M):Calls Tryz.prog 41 #[.pointer (some ⟨d,0,none⟩)] w fun e w'=>e = .returned (.int .i64 M.starts)/\w=w':=by
 obtain⟨mb,lv,fs,h⟩:=hd
 have c0:=h.head.cell (i:=0) rfl
 have c4:=h.head.cell (i:=4) rfl
 go_enter Tryz.func41,Tryz.ntmps41
 go_wp2_with (go_at_call 77;refine(disk_none_some _ _ _ c0).mono ?_;rintro e w' ⟨rfl,rfl⟩)
 go_ret
 exact⟨rfl,rfl⟩
theorem starts_ap (h:Apart B d M w) (he:M.starts=r) :
  Calls Tryz.prog 41 #[.pointer (some ⟨d,0,none⟩)] w fun e w'=>e = .returned (.int .i64 r)/\w=w':=by
 obtain⟨_,_,fp,h1,_⟩:=h
 rw[<- he]
 exact starts_any w h1
end
section
variable {d : Nat} {fp : Nat → Prop} {M : DiskM}
theorem loose_any (w:World) (hd:IsDisk w d fp M):Calls Tryz.prog 51 #[.pointer (some ⟨d,0,none⟩)] w fun e w'=>e = .returned (.int .i64 (DiskM.looseAll M.loose))/\Kept (fun _=>False) w w':=by
 obtain⟨mb,lv,fs,h⟩:=hd
 have c0:=h.head.cell (i:=0) rfl
 have c1:=h.head.cell (i:=1) rfl
 have hrow:=h.loose
 have k1:=h.ok.cap1
 have k2:=h.ok.room
 have k3:=looseAll_le h.ok
 obtain⟨a,m,cap,rfl,hm,hml,hcell⟩:=hrow.form (by omega)
 rw[pcells_len]at hm
 have hml':maxLen=9223372036854775807:=rfl
 have hlen:M.loose.length=m:=by omega
 clear hm
 go_enter Tryz.func51,Tryz.ntmps51
 go_wp2_with (go_at_call 77;refine(disk_none_some _ _ _ c0).mono ?_;rintro e w' ⟨rfl,rfl⟩)
 go_loopw [3,13] (fun x y wr=>∃ i:Nat,y = .int .i64 i/\i<=m/\x = .int .i64 (DiskM.looseAll (M.loose.take i))/\Kept (fun _=>False) w wr) (fun _ y _=>m-(intOf y).toNat)
 case atStart=>exact⟨0,rfl,Nat.zero_le _,by simp[DiskM.looseAll],Kept.refl _ _⟩
 case round =>
  obtain⟨i,rfl,hi,rfl,hk⟩:=hrel
  have hrow':=hrow.kept hk (fun _ _=>id)
  have HL:=Lib.hid (looseAll_take M.loose i)
  have hle:=looseAll_take_le M.loose i
  by_cases hlt:i<m
  ·obtain⟨g,rfl,hown,hcs⟩:=hcell (by omega)
   obtain⟨p,hp⟩:∃ p,M.loose[i]? = some p:=⟨M.loose[i],List.getElem?_eq_getElem (by omega)⟩
   obtain⟨hp0,hp1⟩:=pcells_get M.loose i p hp
   have q0:=hrow'.cellsAt hp0
   have q1:=hrow'.cellsAt hp1
   have hle1:=looseAll_take_le M.loose (i+1)
   have hst:=looseAll_take M.loose i p hp
   have HST:=Lib.hid hst
   have hx:decide (i<m)=true:=decide_eq_true hlt
   have hle2:DiskM.looseAll (M.loose.take i)+p.2<=1048576:=by omega
   clear hst hp0 hp1 hp hcs hcell
   go_wp2_with fail
   go_roundw
   case rel=>exact⟨i+1,by go_num,hlt,by rw[HST.out];go_num,hk.alloc _⟩
   case measure=>simp[intOf];omega
  ·have hx:decide (i<m)=false:=by simp;omega
   have:i=m:=by omega
   subst this
   have hall:M.loose.take i=M.loose:=List.take_of_length_le (by omega)
   clear hcell
   go_wp2_with fail
   go_ret
   exact⟨ret_int (by rw[hall]),hk⟩
end
section
variable {w0 w w' : World} {B : Nat → Prop} {d : Nat} {M M' : DiskM} {r : Int}
end
end Go.Proofs.YtdmedbhbefdnkaaGreatDoor
