/- RE4 RE5 RE7 -/
import Derived.Test.YtdmedbhbefdnkaaGreatDoorUKeyringPlay42
set_option linter.unusedVariables false
set_option linter.unusedSimpArgs false
set_option maxRecDepth 100000
set_option maxHeartbeats 16000000
namespace Go.Proofs.YtdmedbhbefdnkaaGreatDoor
open Go.RowKit
theorem stay_min (keep:Int) (s:Nat):DiskM.stay keep s=min (max keep 0).toNat s:=rfl
def gsum:List (Int × Nat)->Int->Int->Nat
 | [],_,_=>0
 | p::r,keep,n=>(if p.1=n then p.2-DiskM.stay keep p.2 else 0)+gsum r (keep-(DiskM.stay keep p.2:Nat)) n
theorem gsum_cons (p:Int × Nat) (r:List (Int × Nat)) (keep n:Int):gsum (p::r) keep n=(if p.1=n then p.2-DiskM.stay keep p.2 else 0)+gsum r (keep-(DiskM.stay keep p.2:Nat)) n:=rfl
theorem gstep_get (l:List (Int × Nat)):∀ (keep:Int) (g:List (Int × Nat)),AM.Rise g->∀ n,(AM.get (l.foldl DiskM.gstep (keep,g)).2 n).getD 0=(AM.get g n).getD 0+gsum l keep n:=by
 induction l with
 | nil=>intro keep g _ n;rfl
 | cons p r ih =>
  intro keep g hg n
  rw[List.foldl_cons]
  show(AM.get (r.foldl DiskM.gstep (keep-(DiskM.stay keep p.2:Nat),AM.set g p.1 ((AM.get g p.1).getD 0+(p.2-DiskM.stay keep p.2)))).2 n).getD 0=_
  rw[ih _ _ (AM.rise_set hg _ _) n]
  rw[gsum_cons]
  by_cases h:p.1=n
  ·subst h
   rw[AM.get_set_same hg,if_pos rfl,Option.getD_some]
   omega
  ·rw[AM.get_set_other hg _ (fun e=>h e.symm),if_neg h]
   omega
theorem gstep_key (l:List (Int × Nat)):∀ (keep:Int) (g:List (Int × Nat)),AM.Rise g->∀ n,AM.get (l.foldl DiskM.gstep (keep,g)).2 n≠none->AM.get g n≠none\/∃ p∈l,p.1=n:=by
 induction l with
 | nil=>intro keep g _ n h;exact Or.inl h
 | cons p r ih =>
  intro keep g hg n h
  rw[List.foldl_cons]at h
  rcases ih _ _ (AM.rise_set hg _ _) n h with q|⟨x,hx,e⟩
  ·by_cases h1:p.1=n
   ·exact Or.inr ⟨p,List.mem_cons_self ..,h1⟩
   ·rw[AM.get_set_other hg _ (fun e=>h1 e.symm)]at q
    exact Or.inl q
  ·exact Or.inr ⟨x,List.mem_cons_of_mem _ hx,e⟩
theorem gsum_count (l:List (Int × Nat)):∀ (keep n:Int),((expandL l).drop (max keep 0).toNat).count n=gsum l keep n:=by
 induction l with
 | nil=>intro keep n;simp[expandL,gsum]
 | cons p r ih =>
  intro keep n
  have e:expandL (p::r)=List.replicate p.2 p.1++expandL r:=by simp[expandL]
  rw[gsum_cons,e,List.drop_append,List.length_replicate,List.count_append,List.drop_replicate,<- ih]
  have h2:(max keep 0).toNat-p.2=(max (keep-(DiskM.stay keep p.2:Nat)) 0).toNat:=by rw[stay_min];omega
  rw[h2]
  congr 1
  rw[List.count_replicate,stay_min]
  by_cases h:p.1=n
  ·rw[if_pos h,if_pos (by simpa using h)]
   omega
  ·rw[if_neg h,if_neg (by simpa using h)]
theorem drop_min (l:List Int) (keep:Int):l.drop (min (max keep 0) (l.length:Int)).toNat=l.drop (max keep 0).toNat:=by
 rcases Int.le_total (max keep 0) (l.length:Int)with h|h
 ·rw[Int.min_eq_left h]
 ·rw[Int.min_eq_right h,Int.toNat_natCast,List.drop_length,List.drop_eq_nil_of_le (by omega)]
theorem get_kmap (f:Int->By->By) (m:List (Int × By)) (k:Int):AM.get (m.map fun p=>(p.1,f p.1 p.2)) k=(AM.get m k).map (f k):=by
 induction m with
 | nil=>rfl
 | cons y r ih =>
  by_cases e:y.1=k
  ·simp[AM.get,List.find?_cons,e]
  ·have h1:AM.get (y::r) k=AM.get r k:=by simp[AM.get,List.find?_cons,e]
   have h2:AM.get ((y::r).map fun p=>(p.1,f p.1 p.2)) k=AM.get (r.map fun p=>(p.1,f p.1 p.2)) k:=by simp[AM.get,List.find?_cons,e]
   rw[h1,h2,ih]
theorem crash_same {files : List (Int × By)} (hr : AM.Rise files) {loose : List (Int × Nat)} (ho : ∀ p ∈ loose, (AM.get files p.1).isSome = true) (keep : Int) :
    files.map (fun p => (p.1, p.2.take (p.2.length - ((expandL loose).drop (min (max keep 0) ((expandL loose).length : Int)).toNat).count p.1))) = DiskM.crashed files (DiskM.gone loose keep) := by
  refine AM.ext ?_ (DiskM.crashed_rise hr _) (fun k => ?_)
  · unfold AM.Rise
    rw [List.pairwise_map]
    exact hr
  · rw [get_kmap (fun n b => b.take (b.length - ((expandL loose).drop (min (max keep 0) ((expandL loose).length : Int)).toNat).count n)), drop_min, gsum_count]
    have hg := DiskM.crashed_get hr (DiskM.gone_rise loose keep) k
    have hs := gstep_get loose keep [] AM.rise_nil k
    have hk := gstep_key loose keep [] AM.rise_nil k
    rw [hg]
    unfold DiskM.gone at *
    cases hgn : AM.get (loose.foldl DiskM.gstep (keep, [])).2 k with
    | none =>
      rw [hgn] at hs
      have h0 : gsum loose keep k = 0 := by have : (AM.get ([] : List (Int × Nat)) k).getD 0 = 0 := rfl
                                            have : (none : Option Nat).getD 0 = 0 := rfl
                                            omega
      rw [h0]
      simp
    | some m =>
      rw [hgn] at hs hk
      have hm : gsum loose keep k = m := by have : (AM.get ([] : List (Int × Nat)) k).getD 0 = 0 := rfl
                                            rw [this, Option.getD_some] at hs
                                            omega
      rcases hk (by simp) with q | ⟨p, hp, e⟩
      · exact absurd rfl q
      · have hsome := ho p hp
        rw [e] at hsome
        obtain ⟨b, hb⟩ := Option.isSome_iff_exists.1 hsome
        simp only
        unfold DiskM.cut
        rw [hb, hm]
        rfl
theorem dropL_key {n:Int} {l:List (Int × Nat)} : ∀ {s:Nat} {p:Int × Nat},p∈DiskM.dropL n l s->∃ q∈l,q.1=p.1:=by
 induction l with
 | nil=>intro s p h;simp[DiskM.dropL]at h
 | cons a r ih =>
  intro s p h
  unfold DiskM.dropL at h
  split at h
  ·rcases List.mem_cons.1 h with rfl|h
   ·exact⟨a,List.mem_cons_self ..,rfl⟩
   ·obtain⟨q,hq,e⟩:=ih h;exact⟨q,List.mem_cons_of_mem _ hq,e⟩
  ·rcases List.mem_cons.1 h with rfl|h
   ·exact⟨p,List.mem_cons_self ..,rfl⟩
   ·obtain⟨q,hq,e⟩:=ih h;exact⟨q,List.mem_cons_of_mem _ hq,e⟩
structure RelF (M:DiskM) (R:RefM):Prop where
 ok:M.Ok
 few:M.files.length<=100
 own:∀ p∈M.loose,(AM.get M.files p.1).isSome=true
 L:R.L=M.files
 loose:R.loose=expandL M.loose
 cap:R.cap=M.cap
 down:R.down=M.down
 starts:R.starts=M.starts
 fl:(M.fails=false/\R.fails=0)\/(M.fails=true/\0<=M.left/\M.left<=1000000/\R.fails=M.left+1/\R.keep=M.keep)
section
variable {M M' : DiskM} {R R' : RefM} {e : Int}
theorem RelF.live (h:RelF M R):M.Live:=fun hf=>by
 rcases h.fl with⟨q,_⟩|⟨_,q,_⟩
 ·rw[q]at hf;cases hf
 ·exact q
theorem RelF.sinks (h:RelF M R):R.sinks=M.sinks:=by
 unfold RefM.sinks DiskM.sinks
 rcases h.fl with⟨q1,q2⟩|⟨q1,q2,_,q3,_⟩
 ·rw[q1,q2];rfl
 ·rw[q1,q3,Bool.true_and,decide_eq_decide];omega
theorem RelF.flT (h:RelF M R) (hs:M.sinks=false):(M.tick.fails=false/\R.tick.fails=0)\/(M.tick.fails=true/\0<=M.tick.left/\M.tick.left<=1000000/\R.tick.fails=M.tick.left+1/\R.tick.keep=M.tick.keep):=by
 unfold DiskM.tick RefM.tick
 rcases h.fl with⟨q1,q2⟩|⟨q1,q2,q4,q3,q5⟩
 ·rw[if_neg (by rw[q1];simp),if_pos q2]
  exact Or.inl ⟨q1,q2⟩
 ·unfold DiskM.sinks at hs
  rw[q1,Bool.true_and,decide_eq_false_iff_not]at hs
  rw[if_pos q1,if_neg (by omega)]
  exact Or.inr ⟨q1,by show 0<=M.left-1;omega,by show M.left-1<=1000000;omega,by show R.fails-1=M.left-1+1;omega,q5⟩
theorem DiskM.tick_rest (M:DiskM):M.tick.cap=M.cap/\M.tick.starts=M.starts:=by unfold DiskM.tick;split<;>exact⟨rfl,rfl⟩
theorem RelF.tick (h:RelF M R) (hs:M.sinks=false):RelF M.tick R.tick:=by
 obtain⟨t1,t2,t3,t4,t5,t6⟩:=R.tick_eq
 obtain⟨m1,m2⟩:=M.tick_rest
 exact⟨h.ok.tick h.live,by rw[M.tick_files];exact h.few,by rw[M.tick_files,M.tick_loose];exact h.own,by rw[t1,M.tick_files,h.L],by rw[t2,M.tick_loose,h.loose],by rw[t3,m1,h.cap],by rw[t4,M.tick_down,h.down],by rw[t5,m2,h.starts],h.flT hs⟩
theorem RelF.get (h:RelF M R) (n:Int):(AM.get M.files n=none/\findV R.L n = -1)\/∃ (i:Nat) (b:By),AM.get M.files n=some b/\findV R.L n=(i:Int)/\R.L[i]? = some (n,b)/\b.length<=1048576:=by
 rw[h.L]
 rcases find_get h.ok.rise n with q|⟨i,b,q1,q2,q3⟩
 ·exact Or.inl q
 ·refine Or.inr ⟨i,b,q1,q2,q3,?_⟩
  have h1:=DiskM.len_le_total h.ok q1
  have h2:=h.ok.room
  have h3:=h.ok.cap1
  omega
theorem RelF.rok (h:RelF M R):R.Ok:=by
 refine⟨by rw[h.L];exact h.few,fun p hp=>?_,?_,by rw[h.cap];exact⟨h.ok.cap0,h.ok.cap1⟩,by rcases h.fl with⟨_,q⟩|⟨_,q1,q2,q3,_⟩<;>omega⟩
 ·rw[h.L]at hp
  have h1:=DiskM.len_le_total h.ok ((AM.get_some h.ok.rise).2 hp)
  have h2:=h.ok.room
  have h3:=h.ok.cap1
  omega
 ·rw[h.loose]
  have h1:=count_room M.files (expandL M.loose) h.ok.rise (fun n=>by rw[expandL_count];exact h.ok.lo n)
  have h2:=h.ok.room
  have h3:=h.ok.cap1
  unfold DiskM.total at h2
  omega
theorem RelF.fit (h:RelF M R):R.Fit:=by
 refine⟨by rw[h.L];exact h.ok.rise,fun n hn=>?_,fun p hp=>?_⟩
 ·rw[h.loose]at hn
  unfold expandL at hn
  rw[List.mem_flatMap]at hn
  obtain⟨p,hp,hq⟩:=hn
  obtain rfl:=(List.mem_replicate.1 hq).2
  rcases h.get p.1 with⟨q,_⟩|⟨i,b,_,q2,q3,_⟩
  ·have:=h.own p hp;rw[q]at this;cases this
  ·exact⟨i,_,q2,q3,rfl⟩
 ·rw[h.L]at hp
  have:=h.ok.lo p.1
  rw[h.loose,expandL_count]
  rw[(AM.get_some h.ok.rise).2 (show(p.1,p.2)∈M.files from hp)]at this
  exact this
theorem RelF.free (h:RelF M R):R.free=M.cap-M.total:=by unfold RefM.free DiskM.total;rw[h.cap,h.L]
theorem RelF.has (h:RelF M R) (hd:M.down=false) {n:Int} {b:By} (hg:AM.get M.files n=some b):M.has n=0:=by
 unfold DiskM.has;rw[if_neg (by rw[hd];simp),hg];rfl
theorem RelF.crash (h:RelF M R) (keep:Int):RelF (M.crash keep) (R.crash keep):=by
 have hf:(R.crash keep).L=(M.crash keep).files:=by
  have:=crash_same h.ok.rise h.own keep
  rw[<- h.L,<- h.loose]at this
  show R.L.map _=_
  rw[this,h.L]
  rfl
 refine⟨h.ok.crash keep,?_,(fun p hp=>nomatch hp),hf,rfl,h.cap,rfl,h.starts,Or.inl ⟨rfl,rfl⟩⟩
 rw[<- hf]
 show(R.L.map _).length<=100
 rw[List.length_map,h.L]
 exact h.few
theorem RelF.sunk (h:RelF M R) (hs:M.sinks=true):RelF M.sunk (R.tick.crash R.tick.keep):=by
 obtain⟨t1,t2,t3,t4,t5,t6⟩:=R.tick_eq
 obtain⟨m1,m2⟩:=M.tick_rest
 have hkeep:R.tick.keep=M.keep:=by
  rcases h.fl with⟨q,_⟩|⟨_,_,_,_,q⟩
  ·unfold DiskM.sinks at hs;rw[q]at hs;cases hs
  ·rw[t6,q]
 rw[hkeep]
 have hf:(R.tick.crash M.keep).L=M.sunk.files:=by
  have:=crash_same h.ok.rise h.own M.keep
  show R.tick.L.map (fun p=>(p.1,p.2.take (p.2.length-(R.tick.loose.drop (min (max M.keep 0) (R.tick.loose.length:Int)).toNat).count p.1)))=DiskM.crashed M.tick.files (DiskM.gone M.tick.loose M.keep)
  rw[t1,t2,h.L,h.loose,M.tick_files,M.tick_loose]
  exact this
 refine⟨(h.ok.tick h.live).crash M.keep,?_,(fun p hp=>nomatch hp),hf,rfl,by show R.tick.cap=M.tick.cap;rw[t3,m1,h.cap],rfl,by show R.tick.starts=M.tick.starts;rw[t5,m2,h.starts],Or.inl ⟨rfl,rfl⟩⟩
 rw[<- hf]
 show(R.tick.L.map _).length<=100
 rw[List.length_map,t1,h.L]
 exact h.few
theorem RelF.sync (h:RelF M R) (he:M.sync=(e,M')):∃ R',R.syncF=(e,R')/\RelF M' R':=by
 unfold DiskM.sync at he
 unfold RefM.syncF
 rw[h.down,h.sinks]
 by_cases hd:M.down=true
 ·rw[if_pos hd]at he ⊢
  cases he
  exact⟨_,rfl,h⟩
 ·rw[if_neg hd]at he ⊢
  cases hs:M.sinks with
  | true =>
   rw[hs,if_pos rfl]at he
   rw[if_pos rfl]
   cases he
   exact⟨_,rfl,h.sunk hs⟩
  | false =>
   rw[hs,if_neg (by simp)]at he
   rw[if_neg (by simp)]
   cases he
   have ht:=h.tick hs
   exact⟨_,rfl,ht.ok.noLoose,ht.few,(fun p hp=>nomatch hp),ht.L,rfl,ht.cap,ht.down,ht.starts,ht.fl⟩
theorem RelF.create (h:RelF M R) {n:Int} (n1:n<=9223372036854775807) (hc:M.files.length+M.loose.length<300000000) (he:M.create n=(e,M')):∃ R',R.createF n=(e,R')/\RelF M' R':=by
 unfold DiskM.create at he
 unfold RefM.createF
 rw[h.down,h.sinks]
 by_cases hd:M.down=true
 ·rw[if_pos hd]at he ⊢
  cases he
  exact⟨_,rfl,h⟩
 ·rw[if_neg hd]at he ⊢
  by_cases hn:n<0
  ·rw[if_pos hn]at he ⊢
   cases he
   exact⟨_,rfl,h⟩
  ·rw[if_neg hn]at he ⊢
   rcases h.get n with⟨g1,g2⟩|⟨i,b,g1,g2,g3,_⟩
   ·rw[if_neg (by rw[g1];simp)]at he
    rw[if_neg (by omega),h.L]
    by_cases hf:100<=M.files.length
    ·rw[if_pos hf]at he
     rw[if_pos (by omega)]
     cases he
     exact⟨_,rfl,h⟩
    ·rw[if_neg hf]at he
     rw[if_neg (by omega)]
     cases hs:M.sinks with
     | true =>
      rw[hs,if_pos rfl]at he
      rw[if_pos rfl]
      cases he
      exact⟨_,rfl,h.sunk hs⟩
     | false =>
      rw[hs,if_neg (by simp)]at he
      rw[if_neg (by simp)]
      cases he
      have ht:=h.tick hs
      have g1t:AM.get M.tick.files n=none:=by rw[M.tick_files];exact g1
      have hm:=made_at g1
      have hok:=ht.ok.create n ⟨by omega,n1⟩ g1t (by rw[M.tick_files,M.tick_loose];omega)
      rw[M.tick_files]at hok
      refine⟨_,rfl,hok,?_,fun p hp=>?_,hm,ht.loose,ht.cap,ht.down,ht.starts,ht.fl⟩
      ·show(AM.set M.files n []).length<=100
       rw[AM.length_set,AM.del_none g1]
       omega
      ·show(AM.get (AM.set M.files n []) p.1).isSome=true
       have hp':p∈M.loose:=by rw[<- M.tick_loose];exact hp
       by_cases hpn:p.1=n
       ·rw[hpn,AM.get_set_same h.ok.rise];rfl
       ·rw[AM.get_set_other h.ok.rise _ hpn];exact h.own p hp'
   ·rw[if_pos (by rw[g1];rfl)]at he
    rw[if_pos (by omega)]
    cases he
    exact⟨_,rfl,h⟩
theorem RelF.appended (h:RelF M R) {n:Int} {s b:By} {i:Nat} (hc:M.files.length+M.loose.length<300000000) (g1:AM.get M.files n=some b) (g2:findV R.L n=(i:Int)) (g3:R.L[i]? = some (n,b)) (hf:¬ M.cap-M.total<s.length):RelF (M.appended n s) (R.appended n s):=by
 obtain⟨s1,s2⟩:=setL_at g3 (b++s)
 have hL:(R.appended n s).L=(M.appended n s).files:=by
  show setL R.L (findV R.L n).toNat (datL R.L (findV R.L n).toNat++s)=AM.set M.files n (((AM.get M.files n).getD [])++s)
  rw[g2,Int.toNat_natCast,s2,s1,g1,h.L]
  rw[h.L]at g3
  exact set_at h.ok.rise g3 _
 refine⟨h.ok.appended g1 (by omega) (by omega),?_,fun p hp=>?_,hL,?_,h.cap,h.down,h.starts,h.fl⟩
 ·show(AM.set M.files n _).length<=100
  rw[set_few h.ok.rise g1];exact h.few
 ·show(AM.get (AM.set M.files n _) p.1).isSome=true
  by_cases hpn:p.1=n
  ·rw[hpn,AM.get_set_same h.ok.rise];rfl
  ·rw[AM.get_set_other h.ok.rise _ hpn]
   have hp':p∈M.loose++[(n,s.length)]:=hp
   rcases List.mem_append.1 hp' with q|q
   ·exact h.own p q
   ·rw[List.mem_singleton.1 q]at hpn;exact absurd rfl hpn
 ·show R.loose++List.replicate s.length n=expandL (M.loose++[(n,s.length)])
  rw[expandL_append,h.loose]
  simp[expandL]
theorem RelF.append (h:RelF M R) {n:Int} {s:By} (hc:M.files.length+M.loose.length<300000000) (he:M.append n s=(e,M')):∃ R',R.appendF n s=(e,R')/\RelF M' R':=by
 unfold DiskM.append at he
 unfold RefM.appendF
 rw[h.down,h.free]
 by_cases hd:M.down=true
 ·have hh:M.has n=61:=by unfold DiskM.has;rw[if_pos hd]
  rw[hh,if_pos (by decide)]at he
  rw[if_pos hd]
  cases he
  exact⟨_,rfl,h⟩
 ·rw[if_neg hd]
  rcases h.get n with⟨g1,g2⟩|⟨i,b,g1,g2,g3,_⟩
  ·have hh:M.has n=4:=by unfold DiskM.has;rw[if_neg hd,g1];rfl
   rw[hh,if_pos (by decide)]at he
   rw[if_pos (by omega)]
   cases he
   exact⟨_,rfl,h⟩
  ·rw[h.has (by simpa using hd) g1,if_neg (by simp)]at he
   rw[if_neg (by omega)]
   by_cases hf:M.cap-M.total<s.length
   ·rw[if_pos hf]at he ⊢
    cases he
    exact⟨_,rfl,h⟩
   ·rw[if_neg hf]at he
    rw[if_neg hf]
    have ha:=h.appended hc g1 g2 g3 hf
    have hsa:(M.appended n s).sinks=M.sinks:=rfl
    rw[h.sinks]
    cases hs:M.sinks with
    | true =>
     rw[hs,if_pos rfl]at he
     rw[if_pos rfl]
     cases he
     have hk:(R.appended n s).tick.keep=R.keep:=(R.appended n s).tick_eq.2.2.2.2.2
     have hsu:=ha.sunk (by rw[hsa,hs])
     rw[hk]at hsu
     exact⟨_,rfl,hsu⟩
    | false =>
     rw[hs,if_neg (by simp)]at he
     rw[if_neg (by simp)]
     cases he
     exact⟨_,rfl,ha.tick (by rw[hsa,hs])⟩
theorem RelF.fitA (h:RelF M R) {n:Int} {s:By} (hc:M.files.length+M.loose.length<300000000):R.sinks=true->R.down=false->¬ findV R.L n<0->¬ R.free<(s.length:Int)->(R.appended n s).Fit/\(R.appended n s).Ok:=by
 intro _ _ hf hfr
 rcases h.get n with⟨g1,g2⟩|⟨i,b,g1,g2,g3,_⟩
 ·exact absurd (by omega) hf
 ·rw[h.free]at hfr
  have ha:=h.appended hc g1 g2 g3 hfr
  exact⟨ha.fit,ha.rok⟩
theorem RelF.truncate (h:RelF M R) {n size:Int} (he:M.truncate n size=(e,M')):∃ R',R.truncateF n size=(e,R')/\RelF M' R':=by
 unfold DiskM.truncate at he
 unfold RefM.truncateF
 rw[h.down,h.sinks]
 by_cases hd:M.down=true
 ·have hh:M.has n=61:=by unfold DiskM.has;rw[if_pos hd]
  rw[hh,if_pos (by decide)]at he
  rw[if_pos hd]
  cases he
  exact⟨_,rfl,h⟩
 ·rw[if_neg hd]
  rcases h.get n with⟨g1,g2⟩|⟨i,b,g1,g2,g3,_⟩
  ·have hh:M.has n=4:=by unfold DiskM.has;rw[if_neg hd,g1];rfl
   rw[hh,if_pos (by decide)]at he
   rw[if_pos (by omega)]
   cases he
   exact⟨_,rfl,h⟩
  ·rw[h.has (by simpa using hd) g1,if_neg (by simp),g1]at he
   obtain⟨s1,s2⟩:=setL_at g3 (b.take size.toNat)
   rw[if_neg (by omega),g2,Int.toNat_natCast,s2,s1]
   dsimp only[Option.getD_some]at he ⊢
   by_cases hf:size<0\/(b.length:Int)<size
   ·rw[if_pos hf]at he ⊢
    cases he
    exact⟨_,rfl,h⟩
   ·rw[if_neg hf]at he
    rw[if_neg hf]
    cases hs:M.sinks with
    | true =>
     rw[hs,if_pos rfl]at he
     rw[if_pos rfl]
     cases he
     exact⟨_,rfl,h.sunk hs⟩
    | false =>
     rw[hs,if_neg (by simp)]at he
     rw[if_neg (by simp)]
     cases he
     have ht:=h.tick hs
     obtain⟨k,rfl⟩:∃ k:Nat,size=(k:Int):=⟨size.toNat,by omega⟩
     rw[Int.toNat_natCast]
     have g1t:AM.get M.tick.files n=some b:=by rw[M.tick_files];exact g1
     have hok:=ht.ok.truncated g1t k (by omega)
     refine⟨_,rfl,hok,?_,fun p hp=>?_,?_,?_,ht.cap,ht.down,ht.starts,ht.fl⟩
     ·show(AM.set M.tick.files n _).length<=100
      rw[set_few ht.ok.rise g1t];exact ht.few
     ·show(AM.get (AM.set M.tick.files n _) p.1).isSome=true
      by_cases hpn:p.1=n
      ·rw[hpn,AM.get_set_same ht.ok.rise];rfl
      ·rw[AM.get_set_other ht.ok.rise _ hpn]
       have hp':p∈DiskM.dropL n M.tick.loose (k-(((AM.get M.tick.files n).getD []).length-DiskM.looseOf M.tick.loose n)):=hp
       obtain⟨q,hq,e⟩:=dropL_key hp'
       rw[<- e]
       exact ht.own q hq
     ·show R.L.set i (n,b.take k)=AM.set M.tick.files n (((AM.get M.tick.files n).getD []).take k)
      rw[g1t,h.L,M.tick_files]
      rw[h.L]at g3
      exact set_at h.ok.rise g3 _
     ·show cutR n ((b.length:Int)-(k:Int)) R.loose=expandL (DiskM.dropL n M.tick.loose (k-(((AM.get M.tick.files n).getD []).length-DiskM.looseOf M.tick.loose n)))
      have hlo:=h.ok.lo n
      rw[g1t,M.tick_loose]
      rw[g1]at hlo
      dsimp only[Option.getD_some]at hlo ⊢
      rw[show(b.length:Int)-(k:Int)=((b.length-k:Nat):Int) by omega,cut_keep,drop_keep,h.loose,expandL_count]
      congr 1
      omega
theorem RelF.startR (h:RelF M R) (he:M.startR=(e,M')):∃ R',R.startR=(e,R')/\RelF M' R':=by
 unfold DiskM.startR at he
 unfold RefM.startR
 rw[h.down]
 by_cases hd:M.down=true
 ·rw[if_pos hd]at he ⊢
  cases he
  exact⟨_,rfl,⟨h.ok.rise,h.ok.keys,h.ok.cap0,h.ok.cap1,h.ok.room,h.ok.lo,h.ok.loks,h.ok.left1,h.ok.left2,h.ok.count,h.ok.keepk⟩,h.few,h.own,h.L,h.loose,h.cap,rfl,by show R.starts+1=M.starts+1;rw[h.starts],h.fl⟩
 ·rw[if_neg hd]at he ⊢
  cases he
  exact⟨_,rfl,h⟩
theorem RelF.crashR (h:RelF M R) (keep:Int) (he:M.crashR keep=(e,M')):∃ R',R.crashR keep=(e,R')/\RelF M' R':=by
 unfold DiskM.crashR at he
 unfold RefM.crashR
 rw[h.down]
 by_cases hd:M.down=true
 ·rw[if_pos hd]at he ⊢
  cases he
  exact⟨_,rfl,h⟩
 ·rw[if_neg hd]at he ⊢
  cases he
  exact⟨_,rfl,h.crash keep⟩
theorem RelF.failR (h:RelF M R) (n keep:Int) (hn:n<=1000000) (hk : -9223372036854775808<=keep/\keep<=9223372036854775807) (he:M.failR n keep=(e,M')):∃ R',R.failR n keep=(e,R')/\RelF M' R':=by
 unfold DiskM.failR at he
 unfold RefM.failR
 rw[h.down]
 by_cases hd:M.down=true
 ·rw[if_pos hd]at he ⊢
  cases he
  exact⟨_,rfl,h⟩
 ·rw[if_neg hd]at he ⊢
  by_cases h0:n<0
  ·rw[if_pos h0]at he ⊢
   cases he
   exact⟨_,rfl,h⟩
  ·rw[if_neg h0]at he ⊢
   cases he
   exact⟨_,rfl,⟨h.ok.rise,h.ok.keys,h.ok.cap0,h.ok.cap1,h.ok.room,h.ok.lo,h.ok.loks,by show n<=_;omega,by show -1<=n;omega,h.ok.count,hk⟩,h.few,h.own,h.L,h.loose,h.cap,rfl,h.starts,Or.inr ⟨rfl,by show 0<=n;omega,hn,by show min n 1099511627776+1=n+1;omega,rfl⟩⟩
end
section
variable {w w1 w2 : World} {r : Nat} {M M' M1 M2 : DiskM} {R R' : RefM} {x y x1 y1 : Value} {e : Int}
def RefAtF (w:World) (r:Nat) (M:DiskM) (x y:Value):Prop:=∃ R,IsRef w r R x y/\RelF M R
theorem RefAtF.keep {w w':World} {r:Nat} {x y:Value} {S:Nat->Prop} (h:RefAtF w r M x y) (hk:Kept S w w') (hS:∀ k,refOwn r x y k->¬ S k):RefAtF w' r M x y:=by
 obtain⟨R,h1,h2⟩:=h
 exact⟨R,h1.kept hk hS,h2⟩
theorem RefAtF.lt {w:World} {r:Nat} {x y:Value} (h:RefAtF w r M x y) {k:Nat} (hk:refOwn r x y k):k<w.heap.size:=by
 obtain⟨R,h1,h2⟩:=h
 exact h1.lt hk
def RefGoF (w:World) (r:Nat) (x y:Value) (M':DiskM) (w':World):Prop :=
 ∃ x' y',RefAtF w' r M' x' y'/\Kept (· = r) w w'/\(∀ k,x'.ownBlock=some k->x.ownBlock=some k\/w.heap.size<=k)/\(∀ k,y'.ownBlock=some k->y.ownBlock=some k\/w.heap.size<=k)
theorem RefTo.goF {w w':World} {r:Nat} {x y:Value} (h:RefTo w r x y R' w') (hr:RelF M' R'):RefGoF w r x y M' w':=by
 obtain⟨x',y',h1,h2,h3,h4⟩:=h
 exact⟨x',y',⟨R',h1,hr⟩,h2,h3,h4⟩
theorem RefGoF.thru {z1 z2:Value} (h2:Kept (· = r) w w1) (h3:∀ k,z1.ownBlock=some k->x.ownBlock=some k\/w.heap.size<=k) (h4:∀ k,z2.ownBlock=some k->y.ownBlock=some k\/w.heap.size<=k) (hq:RefGoF w1 r z1 z2 M2 w2):RefGoF w r x y M2 w2:=by
 obtain⟨x2,y2,g1,g2,g3,g4⟩:=hq
 refine⟨x2,y2,g1,h2.trans g2,fun k q=>?_,fun k q=>?_⟩
 ·rcases g3 k q with q|q
  ·exact h3 k q
  ·have:=h2.size;exact Or.inr (by omega)
 ·rcases g4 k q with q|q
  ·exact h4 k q
  ·have:=h2.size;exact Or.inr (by omega)
theorem create_atf (h:RefAtF w r M x y) (n:Int) (n0 : -9223372036854775808<=n/\n<=9223372036854775807) (hc:M.files.length+M.loose.length<300000000) (he:M.create n=(e,M')) :
  Calls Tryz.prog 11 #[.pointer (some ⟨r,0,none⟩),.int .i64 n] w fun e' w'=>e' = .returned (.int .i64 e)/\RefGoF w r x y M' w':=by
 obtain⟨R,h1,h2⟩:=h
 obtain⟨R',h3,h4⟩:=h2.create n0.2 hc he
 exact(createF_ref h1 h2.rok h2.fit n n0 h3).mono fun _ _ q=>⟨q.1,q.2.goF h4⟩
theorem append_atf (h:RefAtF w r M x y) (n:Int) (s:By) (hs:s.length<=2000000) (hc:M.files.length+M.loose.length<300000000) (he:M.append n s=(e,M')) :
  Calls Tryz.prog 13 #[.pointer (some ⟨r,0,none⟩),.int .i64 n,.string (strB s)] w fun e' w'=>e' = .returned (.int .i64 e)/\RefGoF w r x y M' w':=by
 obtain⟨R,h1,h2⟩:=h
 obtain⟨R',h3,h4⟩:=h2.append hc he
 exact(appendF_ref h1 h2.rok n s hs (h2.fitA hc) h3).mono fun _ _ q=>⟨q.1,q.2.goF h4⟩
theorem sync_atf (h:RefAtF w r M x y) (he:M.sync=(e,M')) :
  Calls Tryz.prog 46 #[.pointer (some ⟨r,0,none⟩)] w fun e' w'=>e' = .returned (.int .i64 e)/\RefGoF w r x y M' w':=by
 obtain⟨R,h1,h2⟩:=h
 obtain⟨R',h3,h4⟩:=h2.sync he
 exact(syncF_ref h1 h2.rok h2.fit h3).mono fun _ _ q=>⟨q.1,q.2.goF h4⟩
theorem truncate_atf (h:RefAtF w r M x y) (n size:Int) (hsz : -9223372036854775808<=size/\size<=9223372036854775807) (he:M.truncate n size=(e,M')) :
  Calls Tryz.prog 45 #[.pointer (some ⟨r,0,none⟩),.int .i64 n,.int .i64 size] w fun e' w'=>e' = .returned (.int .i64 e)/\RefGoF w r x y M' w':=by
 obtain⟨R,h1,h2⟩:=h
 obtain⟨R',h3,h4⟩:=h2.truncate he
 exact(truncateF_ref h1 h2.rok h2.fit n size hsz h3).mono fun _ _ q=>⟨q.1,q.2.goF h4⟩
theorem crash_atf (h:RefAtF w r M x y) (keep:Int) (he:M.crashR keep=(e,M')) :
  Calls Tryz.prog 55 #[.pointer (some ⟨r,0,none⟩),.int .i64 keep] w fun e' w'=>e' = .returned (.int .i64 e)/\RefGoF w r x y M' w':=by
 obtain⟨R,h1,h2⟩:=h
 obtain⟨R',h3,h4⟩:=h2.crashR keep he
 unfold RefM.crashR at h3
 cases hd:R.down with
 | true =>
  rw[if_pos hd]at h3
  cases h3
  refine(crash_ref_down h1 hd keep).mono ?_
  rintro e' w' ⟨rfl,rfl⟩
  exact⟨rfl,(RefTo.self h1).goF h4⟩
 | false =>
  rw[if_neg (by rw[hd];simp)]at h3
  cases h3
  exact(crash_ref h1 h2.rok hd h2.fit.rise h2.fit.find h2.fit.count keep).mono fun _ _ q=>⟨q.1,q.2.goF h4⟩
theorem start_atf (h:RefAtF w r M x y) (hs:0<=M.starts/\M.starts<9223372036854775807) (he:M.startR=(e,M')) :
  Calls Tryz.prog 57 #[.pointer (some ⟨r,0,none⟩)] w fun e' w'=>e' = .returned (.int .i64 e)/\RefGoF w r x y M' w':=by
 obtain⟨R,h1,h2⟩:=h
 obtain⟨R',h3,h4⟩:=h2.startR he
 exact(start_ref h1 (by rw[h2.starts];exact hs) h3).mono fun _ _ q=>⟨q.1,q.2.goF h4⟩
theorem fail_atf (h:RefAtF w r M x y) (n keep:Int) (hn : -9223372036854775808<=n/\n<=1000000) (hk : -9223372036854775808<=keep/\keep<=9223372036854775807) (he:M.failR n keep=(e,M')) :
  Calls Tryz.prog 59 #[.pointer (some ⟨r,0,none⟩),.int .i64 n,.int .i64 keep] w fun e' w'=>e' = .returned (.int .i64 e)/\RefGoF w r x y M' w':=by
 obtain⟨R,h1,h2⟩:=h
 obtain⟨R',h3,h4⟩:=h2.failR n keep hn.2 hk he
 exact(fail_ref h1 n keep (by omega) h3).mono fun _ _ q=>⟨q.1,q.2.goF h4⟩
theorem find_atf (h:RefAtF w r M x y) (n:Int) :
  Calls Tryz.prog 42 #[.pointer (some ⟨r,0,none⟩),.int .i64 n] w fun e' w'=>e' = .returned (.int .i64 (findV M.files n))/\w=w':=by
 obtain⟨R,h1,h2⟩:=h
 have:=find_ref h1 h2.rok.few n
 rwa[h2.L]at this
theorem free_atf (h:RefAtF w r M x y) :
  Calls Tryz.prog 36 #[.pointer (some ⟨r,0,none⟩)] w fun e' w'=>e' = .returned (.int .i64 (M.cap-M.total))/\w=w':=by
 obtain⟨R,h1,h2⟩:=h
 have:=free_ref h1 h2.rok
 rwa[h2.free]at this
theorem RefAtF.cells (h:RefAtF w r M x y):∃ a c,x = .slice a M.files.length c/\w.cell? ⟨r,1,none⟩=some x/\w.cell? ⟨r,3,none⟩=some (.bool M.down)/\w.cell? ⟨r,4,none⟩=some (.int .i64 M.starts)/\w.cell? ⟨r,2,none⟩=some y/\(∃ b c2,y = .slice b (expandL M.loose).length c2) /\
  ∀ (i:Nat) (p:Int × By),M.files[i]? = some p->∃ g,a=some ⟨g,0,none⟩/\w.cell? ⟨g,i*2,none⟩=some (.int .i64 p.1)/\w.cell? ⟨g,i*2+1,none⟩=some (.string (strB p.2)):=by
 obtain⟨R,h1,h2⟩:=h
 obtain⟨a,c,rfl,hc⟩:=h1.form
 obtain⟨b,c2,rfl,-⟩:=h1.lform
 have c1:=h1.blk.cell (i:=1) rfl
 have c2:=h1.blk.cell (i:=2) rfl
 have c3:=h1.blk.cell (i:=3) rfl
 have c4:=h1.blk.cell (i:=4) rfl
 rw[h2.L]at c1 hc ⊢
 rw[h2.down]at c3
 rw[h2.starts]at c4
 rw[h2.loose]at c2 ⊢
 exact⟨a,c,rfl,c1,c3,c4,c2,⟨b,_,rfl⟩,hc⟩
end
def Og.reff (r:Nat) (M:DiskM) (x y:Value):Og:=⟨refOwn r x y,fun w _=>RefAtF w r M x y,fun h hk hZ=>h.keep hk hZ,fun h hk=>h.lt hk⟩
theorem Owg.refdF {w0 w w':World} {d r:Nat} {N M M':DiskM} {Os:List Og} {x y:Value} (h:Owg w0 w d N (Og.reff r M x y::Os)) (hq:RefGoF w r x y M' w'):∃ x' y',Owg w0 w' d N (Og.reff r M' x' y'::Os):=by
 obtain⟨B,h⟩:=h
 obtain⟨x',y',h1,h2,h3,h4⟩:=hq
 have hB:=fun k (q:refOwn r x y k)=>((h.obs _ (List.mem_cons_self ..)).2 k q).1
 have ho:∀ k,refOwn r x' y' k->refOwn r x y k\/w.heap.size<=k:=by
  rintro k (q|q|q)
  ·exact Or.inl (Or.inl q)
  ·exact(h3 k q).imp (fun q=>Or.inr (Or.inl q)) id
  ·exact(h4 k q).imp (fun q=>Or.inr (Or.inr q)) id
 refine⟨x',y',_,h.swap (x:=Og.reff r M' x' y') (h2.mono (fun k _ e=>Or.inr (Or.inl e))) (h.ap.grow h2 (fun k _ e=>hB k (Or.inl e)) (fun k q=>?_)) h1 ho⟩
 rcases q with q|q
 ·exact Or.inl q
 ·rcases ho k q with q2|q2
  ·exact Or.inl (hB k q2)
  ·exact Or.inr ⟨q2,h1.lt q⟩
section
variable {w w1 w2 w' : World} {d r : Nat} {M : DiskM} {B : Nat → Prop} {x y : Value}
structure SameSF (B:Nat->Prop) (d r:Nat) (M:DiskM) (x y:Value) (w W:World):Prop where
 disk:Apart B d M W
 ref:RefAtF W r M x y
 kept:Kept (fun _=>False) w W
theorem SameSF.same (h:SameSF B d r M x y w w1) (hk:Kept (fun _=>False) w1 w2):SameSF B d r M x y w w2:=⟨h.disk.same hk,h.ref.keep hk (fun _ _=>id),h.kept.trans hk⟩
def SameCF (dn:Bool) (r:Nat) (x y:Value) (st:Int) (W:World):Prop:=W.cell? ⟨r,1,none⟩=some x/\W.cell? ⟨r,2,none⟩=some y/\W.cell? ⟨r,3,none⟩=some (.bool dn)/\W.cell? ⟨r,4,none⟩=some (.int .i64 st)
theorem RefAtF.sameCF {dn:Bool} (h:RefAtF w r M x y) (hm:M.down=dn):SameCF dn r x y M.starts w:=by
 obtain⟨xa,xc,rfl,c1,c3,c4,c2,-⟩:=h.cells
 rw[hm]at c3
 exact⟨c1,c2,c3,c4⟩
theorem sameF_up (h:Apart B d M w) (hr:RefAtF w r M x y) (hm:M.down=false) :
  Calls Tryz.prog 17 #[.pointer (some ⟨d,0,none⟩),.pointer (some ⟨r,0,none⟩)] w fun e w'=>e = .returned (.bool true)/\Kept (fun _=>False) w w':=by
 have HS:=Lib.hid (show SameSF B d r M x y w w from⟨h,hr,Kept.refl _ _⟩)
 have HF:=Lib.hid h.files
 have HM:=Lib.hid hm
 clear h hr hm
 go_enter Tryz.func17,Tryz.ntmps17
 go_upto_region 2 with (go_at_call 50;refine HF.out.mono ?_;rintro e' w1 ⟨v,rfl,hrow,hk,ho⟩;have H1:=Lib.hid (And.intro hrow (HS.out.same hk));clear hrow hk ho)
 obtain⟨fa,fn,fc,rfl,hfn,-⟩:=H1.out.1.form (by omega)
 have hfl:(icells (M.files.map (·.1))).length=M.files.length:=by simp[icells]
 obtain rfl:fn=M.files.length:=by omega
 obtain⟨xa,xc,hxe,-,-,-,-,⟨ya,yc,hye⟩,-⟩:=H1.out.2.ref.cells
 subst hxe hye
 have hc0:=(H1.out.2.same (Kept.refl _ _).drew).ref.sameCF HM.out
 have hfew:M.files.length<=100:=(let ⟨R,_,h2⟩:=H1.out.2.ref;h2.few:M.files.length<=100)
 obtain⟨nl,hnl⟩:∃ nl,M.files.length=nl:=⟨_,rfl⟩
 obtain⟨nz,hnz⟩:∃ nz,(expandL M.loose).length=nz:=⟨_,rfl⟩
 rw[hnl,hnz]at hc0
 simp only[hnl]
 refine wp_region_held_drew (S:=SameCF false r (.slice xa nl xc) (.slice ya nz yc) M.starts) (by kernel_rfl) hc0 (fun hS0=>?_)
 have H2:=Lib.hid (And.intro (H1.out.1.kept (Kept.refl (fun _=>False) w1).drew (fun _ _=>id)) (H1.out.2.same (Kept.refl _ _).drew))
 generalize World.drew w1=W0 at *
 have hlo:=loose_ap H2.out.2.disk
 rw[hnz]at hlo
 rw[hnl]at hfew
 have HLO:=Lib.hid hlo
 have hup:=up_ap H2.out.2.disk (b:=true) (by rw[HM.out];rfl)
 have z0:((nl:Int)!=(nl:Int))=false:=by simp
 have z1:((nz:Int)!=(nz:Int))=false:=by simp
 have z2:((M.cap-M.total:Int)!=(M.cap-M.total:Int))=false:=by simp
 have z3:(M.starts != M.starts)=false:=by simp
 clear hfn hfl HF hc0 HS H1 hlo hup
 refine ti 0 hS0 ?_
 refine ti 1 hS0 ?_
 refine ti 2 hS0 ?_
 refine ti 3 hS0 ?_
 refine ti 4 hS0 ?_
 refine ti 5 hS0 ?_ (hy:=by (refine Or.inl ⟨by rfl,fun w hSw=>?_⟩;unfold SameCF at hSw;go_simp;(try with_reducible rfl)))
 refine ti 6 hS0 ?_
 refine ti 7 hS0 ?_
 refine ti 8 hS0 ?_
 refine ti 9 hS0 ?_
 refine ti 11 hS0 ?_
 refine ti 12 hS0 ?_
 refine ti 13 hS0 ?_
 refine ti 14 hS0 ?_ (hy:=by (refine Or.inl ⟨by rfl,fun w hSw=>?_⟩;unfold SameCF at hSw;go_simp;(try with_reducible rfl)))
 refine ti 15 hS0 ?_
 refine rd1 10 (fun K hK=>?_)
 go_simp
 refine HLO.out.mono ?_
 rintro e' w3 ⟨rfl,hk3⟩
 have H3:=Lib.hid (And.intro (H2.out.1.kept hk3 (fun _ _=>id)) (H2.out.2.same hk3))
 have hS3:=H3.out.2.ref.sameCF HM.out
 rw[hnl,hnz]at hS3
 have HFR:=Lib.hid (free_ap H3.out.2.disk)
 clear hk3 HLO H2
 refine hK.out _ _ hS3 (fun _=>?_)
 clear hK K
 try simp only[lyA,lyB,lyC,lyD]
 refine ti 16 hS3 ?_
 refine ti 17 hS3 ?_
 refine ti 18 hS3 ?_
 refine ti 19 hS3 ?_
 refine ti 21 hS3 ?_
 refine rd1 20 (fun K hK=>?_)
 go_simp
 refine HFR.out.mono ?_
 rintro e' w4 ⟨rfl,hk4⟩
 have H4:=Lib.hid (And.intro (H3.out.1.kept hk4 (fun _ _=>id)) (H3.out.2.same hk4))
 have hS4:=H4.out.2.ref.sameCF HM.out
 rw[hnl,hnz]at hS4
 have HFR2:=Lib.hid (free_atf H4.out.2.ref)
 have HUP:=Lib.hid (up_ap H4.out.2.disk (b:=true) (by rw[HM.out];rfl))
 have HST:=Lib.hid (starts_ap H4.out.2.disk rfl)
 clear hk4 HFR H3
 refine hK.out _ _ hS4 (fun _=>?_)
 clear hK K
 try simp only[lyA,lyB,lyC,lyD]
 refine rd1 22 (fun K hK=>?_)
 go_simp
 refine HFR2.out.mono ?_
 rintro e' w5 ⟨rfl,rfl⟩
 refine hK.out _ _ hS4 (fun _=>?_)
 clear hK K
 try simp only[lyA,lyB,lyC,lyD]
 refine ti 23 hS4 ?_
 refine ti 24 hS4 ?_
 refine ti 25 hS4 ?_
 refine ti 26 hS4 ?_
 refine ti 28 hS4 ?_
 refine ti 29 hS4 ?_
 refine ti 30 hS4 ?_
 refine ti 31 hS4 ?_ (hy:=by (refine Or.inl ⟨by rfl,fun w hSw=>?_⟩;unfold SameCF at hSw;go_simp;(try with_reducible rfl)))
 refine rd1 27 (fun K hK=>?_)
 go_simp
 refine HUP.out.mono ?_
 rintro e' w5 ⟨rfl,rfl⟩
 refine hK.out _ _ hS4 (fun _=>?_)
 clear hK K
 try simp only[lyA,lyB,lyC,lyD]
 refine ti 32 hS4 ?_
 refine ti 33 hS4 ?_
 refine ti 34 hS4 ?_
 refine ti 35 hS4 ?_
 refine ti 37 hS4 ?_
 refine ti 38 hS4 ?_
 refine ti 39 hS4 ?_
 refine ti 40 hS4 ?_ (hy:=by (refine Or.inl ⟨by rfl,fun w hSw=>?_⟩;unfold SameCF at hSw;go_simp;(try with_reducible rfl)))
 refine rd1 36 (fun K hK=>?_)
 go_simp
 refine HST.out.mono ?_
 rintro e' w5 ⟨rfl,rfl⟩
 refine hK.out _ _ hS4 (fun _=>?_)
 clear hK K
 try simp only[lyA,lyB,lyC,lyD]
 refine ti 41 hS4 ?_
 refine ti 42 hS4 ?_
 refine dn ?_
 clear HFR2 HUP HST hS0 hS3
 obtain⟨hx1,hx2,hx3,hx4⟩:=hS4
 go_wp2_with fail
 go_loopw [6] (fun z wr=>∃ i:Nat,i<=nl/\z = .int .i64 (i:Int)/\Hid (Row wr 3 1 (.slice fa nl fc) (icells (M.files.map (·.1)))/\SameSF B d r M (.slice xa M.files.length xc) (.slice ya (expandL M.loose).length yc) w wr)) (fun z _=>nl-(intOf z).toNat)
 case atStart=>exact⟨0,Nat.zero_le _,rfl,Lib.hid (by rw[<- hnl];exact H4.out)⟩
 case round =>
  obtain⟨i,hi,rfl,HI⟩:=hrel
  by_cases hlt:i<nl
  ·obtain⟨y1,y2⟩:=dec_gtr hlt
   obtain⟨p,hp⟩:∃ p,M.files[i]? = some p:=⟨_,List.getElem?_eq_getElem (by omega)⟩
   clear hx1 hx2 hx3 hx4 H4
   go_upto_region 7 with fail
   have HJ:=Lib.hid (And.intro (HI.out.1.kept (Kept.refl (fun _=>False) _).drew (fun _ _=>id)) (HI.out.2.same (Kept.refl _ _).drew))
   clear HI
   obtain⟨xa',xc',hq,hx1,hx3,-,-,-,hcells⟩:=HJ.out.2.ref.cells
   simp only[Value.slice.injEq]at hq
   obtain⟨rfl,-,rfl⟩:=hq
   obtain⟨g,rfl,q0,q1⟩:=hcells i p hp
   obtain⟨fg,fo,rfl,f0⟩:=view_int HJ.out.1.view (i:=i) (p:=p.1) (by rw[List.getElem?_map,hp];rfl)
   have hgt:AM.get M.files p.1=some p.2:=(AM.get_some HJ.out.2.disk.ok.rise).2 (List.mem_of_getElem? hp)
   have hn:=(HJ.out.2.disk.ok.keys _ (List.mem_of_getElem? hp))
   obtain⟨tb,htb⟩:∃ tb,strB p.2=tb:=⟨_,rfl⟩
   have e9:(⟨((p.2.drop 0).take p.2.length).toArray⟩:ByteArray)=tb:=by rw[List.drop_zero,List.take_length,<- htb]
   rw[htb]at q1
   rw[hnl]at hx1
   rw[HM.out]at hx3
   obtain⟨n,hpn⟩:∃ n,p.1=n:=⟨_,rfl⟩
   have HSZ:=Lib.hid (fun (w5:World) (h5:Apart B d M w5)=>(show Calls Tryz.prog 38 #[.pointer (some ⟨d,0,none⟩),.int .i64 n] w5 _ from(let ⟨_,_,fp,h1,_⟩:=h5;hpn ▸ size_ok w5 p.1 (by omega) p.2 h1 HM.out hgt)))
   have HRD:=Lib.hid (fun (w5:World) (h5:Apart B d M w5)=>(show Calls Tryz.prog 52 #[.pointer (some ⟨d,0,none⟩),.int .i64 n,.int .i64 0,.int .i64 (p.2.length:Int)] w5 (fun e w'=>e = .returned (.tuple #[.string tb,.int .i64 0])/\w5=w')from by rw[<- hpn,<- e9];exact read_ap h5 p.1 (by omega) 0 p.2.length p.2 HM.out hgt (by omega)))
   rw[hpn]at q0 f0
   have v0:(n != n)=false:=by simp
   have v2:(tb.toList==tb.toList)=true:=by simp
   have HLT:=Lib.hid hlt
   have hi5:i<=100:=by omega
   have HP:=Lib.hid hp
   refine wp_region_held_drew (S:=fun W=>W.cell? ⟨fg,fo+i,none⟩=some (.int .i64 n)/\W.cell? ⟨r,1,none⟩=some (.slice (some ⟨g,0,none⟩) nl xc)/\W.cell? ⟨g,i*2,none⟩=some (.int .i64 n)) (by kernel_rfl) ⟨f0,hx1,q0⟩ (fun hS7=>?_)
   generalize World.drew _=W7 at *
   clear hp hgt hn e9 htb hpn hi hcells
   refine ti 0 hS7 ?_
   refine ti 1 hS7 ?_
   refine ti 2 hS7 ?_
   refine ti 3 hS7 ?_ (hy:=by (refine Or.inl ⟨by rfl,fun w hSw=>?_⟩;obtain⟨s1,s2,s3⟩:=hSw;go_simp;(try with_reducible rfl)))
   refine ti 4 hS7 ?_
   refine ti 5 hS7 ?_
   refine ti 6 hS7 ?_
   refine ti 7 hS7 ?_ (hy:=by (refine Or.inl ⟨by rfl,fun w hSw=>?_⟩;obtain⟨s1,s2,s3⟩:=hSw;go_simp;(try with_reducible rfl)))
   refine ti 8 hS7 ?_
   refine ti 9 hS7 ?_
   refine ti 10 hS7 ?_
   refine ti 11 hS7 ?_ (hy:=by (refine Or.inl ⟨by rfl,fun w hSw=>?_⟩;obtain⟨s1,s2,s3⟩:=hSw;go_simp;(try with_reducible rfl)))
   refine ti 12 hS7 ?_
   refine dn ?_
   have HSZ7:=Lib.hid (HSZ.out W7 HJ.out.2.disk)
   have HRD7:=Lib.hid (HRD.out W7 HJ.out.2.disk)
   clear HSZ HRD q0 f0
   go_wp2_with (first
    | (go_at_call 38;refine HSZ7.out.mono ?_;rintro e' w5 ⟨rfl,rfl⟩)
    | (go_at_call 52;refine HRD7.out.mono ?_;rintro e' w5 ⟨rfl,rfl⟩))
   go_roundw
   case rel=>exact⟨i+1,HLT.out,by go_num,HJ⟩
   case measure=>have:=HLT.out;simp[intOf];omega
  ·obtain rfl:i=nl:=by omega
   obtain⟨y1,y2⟩:=dec_ler hlt
   clear hi hlt
   go_wp2_with fail
   go_ret
   exact⟨rfl,HI.out.2.kept⟩
theorem sameF_down (h:Apart B d M w) (hr:RefAtF w r M x y) (hm:M.down=true) :
  Calls Tryz.prog 17 #[.pointer (some ⟨d,0,none⟩),.pointer (some ⟨r,0,none⟩)] w fun e w'=>e = .returned (.bool true)/\Kept (fun _=>False) w w':=by
 have HS:=Lib.hid (show SameSF B d r M x y w w from⟨h,hr,Kept.refl _ _⟩)
 have HF:=Lib.hid h.files
 have HM:=Lib.hid hm
 clear h hr hm
 go_enter Tryz.func17,Tryz.ntmps17
 go_upto_region 2 with (go_at_call 50;refine HF.out.mono ?_;rintro e' w1 ⟨v,rfl,hrow,hk,ho⟩;have H1:=Lib.hid (And.intro hrow (HS.out.same hk));clear hrow hk ho)
 obtain⟨fa,fn,fc,rfl,hfn,-⟩:=H1.out.1.form (by omega)
 have hfl:(icells (M.files.map (·.1))).length=M.files.length:=by simp[icells]
 obtain rfl:fn=M.files.length:=by omega
 obtain⟨xa,xc,hxe,-,-,-,-,⟨ya,yc,hye⟩,-⟩:=H1.out.2.ref.cells
 subst hxe hye
 have hc0:=(H1.out.2.same (Kept.refl _ _).drew).ref.sameCF HM.out
 have hfew:M.files.length<=100:=(let ⟨R,_,h2⟩:=H1.out.2.ref;h2.few:M.files.length<=100)
 obtain⟨nl,hnl⟩:∃ nl,M.files.length=nl:=⟨_,rfl⟩
 obtain⟨nz,hnz⟩:∃ nz,(expandL M.loose).length=nz:=⟨_,rfl⟩
 rw[hnl,hnz]at hc0
 simp only[hnl]
 refine wp_region_held_drew (S:=SameCF true r (.slice xa nl xc) (.slice ya nz yc) M.starts) (by kernel_rfl) hc0 (fun hS0=>?_)
 have H2:=Lib.hid (And.intro (H1.out.1.kept (Kept.refl (fun _=>False) w1).drew (fun _ _=>id)) (H1.out.2.same (Kept.refl _ _).drew))
 generalize World.drew w1=W0 at *
 have hlo:=loose_ap H2.out.2.disk
 rw[hnz]at hlo
 rw[hnl]at hfew
 have HLO:=Lib.hid hlo
 have hup:=up_ap H2.out.2.disk (b:=false) (by rw[HM.out];rfl)
 have z0:((nl:Int)!=(nl:Int))=false:=by simp
 have z1:((nz:Int)!=(nz:Int))=false:=by simp
 have z2:((M.cap-M.total:Int)!=(M.cap-M.total:Int))=false:=by simp
 have z3:(M.starts != M.starts)=false:=by simp
 clear hfn hfl HF hc0 HS H1 hlo hup
 refine ti 0 hS0 ?_
 refine ti 1 hS0 ?_
 refine ti 2 hS0 ?_
 refine ti 3 hS0 ?_
 refine ti 4 hS0 ?_
 refine ti 5 hS0 ?_ (hy:=by (refine Or.inl ⟨by rfl,fun w hSw=>?_⟩;unfold SameCF at hSw;go_simp;(try with_reducible rfl)))
 refine ti 6 hS0 ?_
 refine ti 7 hS0 ?_
 refine ti 8 hS0 ?_
 refine ti 9 hS0 ?_
 refine ti 11 hS0 ?_
 refine ti 12 hS0 ?_
 refine ti 13 hS0 ?_
 refine ti 14 hS0 ?_ (hy:=by (refine Or.inl ⟨by rfl,fun w hSw=>?_⟩;unfold SameCF at hSw;go_simp;(try with_reducible rfl)))
 refine ti 15 hS0 ?_
 refine rd1 10 (fun K hK=>?_)
 go_simp
 refine HLO.out.mono ?_
 rintro e' w3 ⟨rfl,hk3⟩
 have H3:=Lib.hid (And.intro (H2.out.1.kept hk3 (fun _ _=>id)) (H2.out.2.same hk3))
 have hS3:=H3.out.2.ref.sameCF HM.out
 rw[hnl,hnz]at hS3
 have HFR:=Lib.hid (free_ap H3.out.2.disk)
 clear hk3 HLO H2
 refine hK.out _ _ hS3 (fun _=>?_)
 clear hK K
 try simp only[lyA,lyB,lyC,lyD]
 refine ti 16 hS3 ?_
 refine ti 17 hS3 ?_
 refine ti 18 hS3 ?_
 refine ti 19 hS3 ?_
 refine ti 21 hS3 ?_
 refine rd1 20 (fun K hK=>?_)
 go_simp
 refine HFR.out.mono ?_
 rintro e' w4 ⟨rfl,hk4⟩
 have H4:=Lib.hid (And.intro (H3.out.1.kept hk4 (fun _ _=>id)) (H3.out.2.same hk4))
 have hS4:=H4.out.2.ref.sameCF HM.out
 rw[hnl,hnz]at hS4
 have HFR2:=Lib.hid (free_atf H4.out.2.ref)
 have HUP:=Lib.hid (up_ap H4.out.2.disk (b:=false) (by rw[HM.out];rfl))
 have HST:=Lib.hid (starts_ap H4.out.2.disk rfl)
 clear hk4 HFR H3
 refine hK.out _ _ hS4 (fun _=>?_)
 clear hK K
 try simp only[lyA,lyB,lyC,lyD]
 refine rd1 22 (fun K hK=>?_)
 go_simp
 refine HFR2.out.mono ?_
 rintro e' w5 ⟨rfl,rfl⟩
 refine hK.out _ _ hS4 (fun _=>?_)
 clear hK K
 try simp only[lyA,lyB,lyC,lyD]
 refine ti 23 hS4 ?_
 refine ti 24 hS4 ?_
 refine ti 25 hS4 ?_
 refine ti 26 hS4 ?_
 refine ti 28 hS4 ?_
 refine ti 29 hS4 ?_
 refine ti 30 hS4 ?_
 refine ti 31 hS4 ?_ (hy:=by (refine Or.inl ⟨by rfl,fun w hSw=>?_⟩;unfold SameCF at hSw;go_simp;(try with_reducible rfl)))
 refine rd1 27 (fun K hK=>?_)
 go_simp
 refine HUP.out.mono ?_
 rintro e' w5 ⟨rfl,rfl⟩
 refine hK.out _ _ hS4 (fun _=>?_)
 clear hK K
 try simp only[lyA,lyB,lyC,lyD]
 refine ti 32 hS4 ?_
 refine ti 33 hS4 ?_
 refine ti 34 hS4 ?_
 refine ti 35 hS4 ?_
 refine ti 37 hS4 ?_
 refine ti 38 hS4 ?_
 refine ti 39 hS4 ?_
 refine ti 40 hS4 ?_ (hy:=by (refine Or.inl ⟨by rfl,fun w hSw=>?_⟩;unfold SameCF at hSw;go_simp;(try with_reducible rfl)))
 refine rd1 36 (fun K hK=>?_)
 go_simp
 refine HST.out.mono ?_
 rintro e' w5 ⟨rfl,rfl⟩
 refine hK.out _ _ hS4 (fun _=>?_)
 clear hK K
 try simp only[lyA,lyB,lyC,lyD]
 refine ti 41 hS4 ?_
 refine ti 42 hS4 ?_
 refine dn ?_
 clear HFR2 HUP HST hS0 hS3
 obtain⟨hx1,hx2,hx3,hx4⟩:=hS4
 go_wp2_with fail
 go_loopw [6] (fun z wr=>∃ i:Nat,i<=nl/\z = .int .i64 (i:Int)/\Hid (Row wr 3 1 (.slice fa nl fc) (icells (M.files.map (·.1)))/\SameSF B d r M (.slice xa M.files.length xc) (.slice ya (expandL M.loose).length yc) w wr)) (fun z _=>nl-(intOf z).toNat)
 case atStart=>exact⟨0,Nat.zero_le _,rfl,Lib.hid (by rw[<- hnl];exact H4.out)⟩
 case round =>
  obtain⟨i,hi,rfl,HI⟩:=hrel
  by_cases hlt:i<nl
  ·obtain⟨y1,y2⟩:=dec_gtr hlt
   obtain⟨p,hp⟩:∃ p,M.files[i]? = some p:=⟨_,List.getElem?_eq_getElem (by omega)⟩
   clear hx1 hx2 hx3 hx4 H4
   go_upto_region 7 with fail
   have HJ:=Lib.hid (And.intro (HI.out.1.kept (Kept.refl (fun _=>False) _).drew (fun _ _=>id)) (HI.out.2.same (Kept.refl _ _).drew))
   clear HI
   obtain⟨xa',xc',hq,hx1,hx3,-,-,-,hcells⟩:=HJ.out.2.ref.cells
   simp only[Value.slice.injEq]at hq
   obtain⟨rfl,-,rfl⟩:=hq
   obtain⟨g,rfl,q0,q1⟩:=hcells i p hp
   obtain⟨fg,fo,rfl,f0⟩:=view_int HJ.out.1.view (i:=i) (p:=p.1) (by rw[List.getElem?_map,hp];rfl)
   rw[hnl]at hx1
   rw[HM.out]at hx3
   obtain⟨n,hpn⟩:∃ n,p.1=n:=⟨_,rfl⟩
   rw[hpn]at q0 f0
   have v0:(n != n)=false:=by simp
   have HLT:=Lib.hid hlt
   have hi5:i<=100:=by omega
   have HP:=Lib.hid hp
   refine wp_region_held_drew (S:=fun W=>W.cell? ⟨fg,fo+i,none⟩=some (.int .i64 n)/\W.cell? ⟨r,1,none⟩=some (.slice (some ⟨g,0,none⟩) nl xc)/\W.cell? ⟨g,i*2,none⟩=some (.int .i64 n)) (by kernel_rfl) ⟨f0,hx1,q0⟩ (fun hS7=>?_)
   generalize World.drew _=W7 at *
   clear hp hpn hi hcells q1
   refine ti 0 hS7 ?_
   refine ti 1 hS7 ?_
   refine ti 2 hS7 ?_
   refine ti 3 hS7 ?_ (hy:=by (refine Or.inl ⟨by rfl,fun w hSw=>?_⟩;obtain⟨s1,s2,s3⟩:=hSw;go_simp;(try with_reducible rfl)))
   refine ti 4 hS7 ?_
   refine ti 5 hS7 ?_
   refine ti 6 hS7 ?_
   refine ti 7 hS7 ?_ (hy:=by (refine Or.inl ⟨by rfl,fun w hSw=>?_⟩;obtain⟨s1,s2,s3⟩:=hSw;go_simp;(try with_reducible rfl)))
   refine ti 8 hS7 ?_
   refine ti 9 hS7 ?_
   refine ti 10 hS7 ?_
   refine ti 11 hS7 ?_ (hy:=by (refine Or.inl ⟨by rfl,fun w hSw=>?_⟩;obtain⟨s1,s2,s3⟩:=hSw;go_simp;(try with_reducible rfl)))
   refine ti 12 hS7 ?_
   refine dn ?_
   go_wp2_with fail
   go_roundw
   case rel=>exact⟨i+1,HLT.out,by go_num,HJ⟩
   case measure=>have:=HLT.out;simp[intOf];omega
  ·obtain rfl:i=nl:=by omega
   obtain⟨y1,y2⟩:=dec_ler hlt
   clear hi hlt
   go_wp2_with fail
   go_ret
   exact⟨rfl,HI.out.2.kept⟩
theorem sameF_any (h:Apart B d M w) (hr:RefAtF w r M x y) :
  Calls Tryz.prog 17 #[.pointer (some ⟨d,0,none⟩),.pointer (some ⟨r,0,none⟩)] w fun e w'=>e = .returned (.bool true)/\Kept (fun _=>False) w w':=by
 cases hm:M.down with
 | false=>exact sameF_up h hr hm
 | true=>exact sameF_down h hr hm
end
end Go.Proofs.YtdmedbhbefdnkaaGreatDoor
