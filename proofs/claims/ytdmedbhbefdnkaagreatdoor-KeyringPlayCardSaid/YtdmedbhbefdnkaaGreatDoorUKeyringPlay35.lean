/- RN4 RF4 -/
import Derived.Test.YtdmedbhbefdnkaaGreatDoorUKeyringPlay32
import Derived.Test.YtdmedbhbefdnkaaGreatDoorUKeyringPlay33
set_option linter.unusedVariables false
set_option linter.unusedSimpArgs false
set_option maxRecDepth 100000
set_option maxHeartbeats 16000000
namespace Go.Proofs.YtdmedbhbefdnkaaGreatDoor
open Go.RowKit
def RUnPost (s:ByteArray) (w:World) (e:Ending) (w':World):Prop :=
 ∃ (root:By) (t:ByteArray) (b:Bool),root.length=32/\e = .returned (.tuple #[hashV root,.string t,.bool b])/\(∀ r:By,r.length=32->s.data.toList=r->root=r)/\Kept (fun _=>False) w w'
def hashUp (l:By) (k:Nat):By:=l.take k++List.replicate (32-k) 0
theorem hashUp_len {l:By} {k:Nat} (hl:32<=l.length) (hk:k<=32):(hashUp l k).length=32:=by unfold hashUp;rw[List.length_append,List.length_take,List.length_replicate];omega
theorem hashUp_zero (l:By):bytes8 (hashUp l 0)=zeros 32:=by rw[zeros_bytes8];rfl
theorem hashUp_all {l:By} : hashUp l 32=l.take 32:=by unfold hashUp;simp
theorem hashUp_next {l:By} {k:Nat} {b:UInt8} (hk:k<32) (hb:l[k]? = some b):(bytes8 (hashUp l k)).set k (.int .u8 (b.toNat:Int))=bytes8 (hashUp l (k+1)):=by
 have hkl:=(List.getElem?_eq_some_iff.1 hb).1
 have e1:(bytes8 (hashUp l k)).set k (.int .u8 (b.toNat:Int))=bytes8 ((hashUp l k).set k b):=by unfold bytes8;rw[List.map_set]
 rw[e1]
 congr 1
 unfold hashUp
 rw[List.set_append_right _ _ (by rw[List.length_take];omega),List.length_take,Nat.min_eq_left (by omega),Nat.sub_self,List.take_add_one,hb,show 32-k=(32-(k+1))+1 by omega,List.replicate_succ]
 simp
def UnS (wr:World) (a b:Nat) (R:By) (W:World):Prop:=W.rangeAt b 0 (bytes8 R)/\(∃ C:List Value,C.length=32/\Blk W a C 30)/\Kept (· = a) wr W
theorem UnS.store {wr W:World} {a b:Nat} {R:By} (h:UnS wr a b R W) (hR:R.length=32) (hab:a≠b):UnS wr a b R (W.setCells a 0 (bytes8 R)):=by
 obtain⟨h1,⟨C,hC,hb⟩,hk⟩:=h
 have hs:=hash_stored hb hC hR
 have k2:=kept_setCells W a 0 (bytes8 R)
 exact⟨fun j v hv=>k2.cell (h1 j v hv) (fun e=>hab e.symm),⟨_,by rw[bytes8_len,hR],hs.2⟩,hk.then_ k2 (fun _ _ e=>e)⟩
theorem runhash_any (w : World) (s : ByteArray) (hs : s.size ≤ 100000000) :
    Calls Tryz.prog 85 #[.string s] w (RUnPost s w) := by
  have hb0 := (Blk.new w (zeros 32) 30).alloc (.cells (zeros 32).toArray 30)
  have hb1 := Blk.new (w.alloc (.cells (zeros 32).toArray 30)) (zeros 32) 30
  rw [World.size_alloc] at hb1
  have hk0 : Kept (fun _ => False) w ((w.alloc (.cells (zeros 32).toArray 30)).alloc (.cells (zeros 32).toArray 30)) := ((Kept.refl _ _).alloc _).alloc _
  have hz : zeros 32 = bytes8 (List.replicate 32 0) := zeros_bytes8 32
  have HZ := Lib.hid hz
  have hlz : (List.replicate 32 (0 : UInt8)).length = 32 := List.length_replicate
  have HI := Lib.hid (fun (l : By) (hl : l.length = 32) => show (Tryz.prog.info? 30).map (·.size) = some (bytes8 l).length by rw [bytes8_len, hl]; exact info_h32)
  by_cases hlt : s.size < 32
  · have y1 : decide ((s.size : Int) < 32) = true := decide_eq_true (by omega)
    have y2 : decide (s.size < 32) = true := decide_eq_true hlt
    have hrg := hb1.range0
    have hst := hash_stored hb0 (zeros_len 32) hlz
    rw [← hz] at hst
    have hiz := HI.out _ hlz
    rw [← hz] at hiz
    have HS := Lib.hid hst
    have HII := Lib.hid hiz
    have HK := Lib.hid hk0
    have HNO := Lib.hid (show ∀ r : By, r.length = 32 → s.data.toList = r → List.replicate 32 0 = r from fun r hr h => by
      have : s.data.toList.length = s.size := by simp
      rw [h, hr] at this
      omega)
    have h1 : ∀ x ∈ zeros 32, x.oneCell' = true := by rw [hz]; exact u8_oneCell
    have H1 := Lib.hid h1
    obtain ⟨W, hW⟩ : ∃ W : World, W = (w.alloc (.cells (zeros 32).toArray 30)).alloc (.cells (zeros 32).toArray 30) := ⟨_, rfl⟩
    rw [← hW] at hrg HS HK
    clear hb0 hb1 hk0 hz hst hiz hlt h1
    go_enter Tryz.func85, Tryz.ntmps85
    go_upto_region 2 with fail
    generalize hWx : World.alloc _ _ = Wx
    obtain rfl : W = Wx := by rw [hW, ← hWx]; rfl
    clear hW hWx
    generalize zeros 32 = Z at *
    go_wp2_with (first | ((with_reducible show wpList _ _ _ (⟨some 10, _, _, _, _, _⟩ :: _) _ _); refine wpList_load_mid rfl 30 _ rfl (w.heap.size + 1) 0 rfl Z _ hrg Tryz.underlying30 rfl HII.out ?_) | ((with_reducible show wpList _ _ _ (⟨none, .store _ (.tmp 2) _, _, _, _, _⟩ :: _) _ _); refine wpList_store_mid rfl 30 _ _ rfl w.heap.size 0 Z.toArray rfl rfl ?hth ?hi ?h1 ?_))
    case hth => exact HS.out.1
    case hi => simpa using HII.out
    case h1 => exact all_oneCell_toArray H1.out
    refine bodyPost_ret (HS.out.2.result3 rfl rfl Tryz.underlying30 rfl HII.out) rfl ⟨List.replicate 32 0, ⟨#[]⟩, false, hlz, by rw [HZ.out]; rfl, HNO.out, ?_⟩
    exact HK.out.then_ (kept_setCells _ _ _ _) (fun i hi e => by omega)
  · have y1 : decide ((s.size : Int) < 32) = false := decide_eq_false (by omega)
    have y2 : decide (s.size < 32) = false := decide_eq_false hlt
    have hl32 : 32 ≤ s.data.toList.length := by have : s.data.toList.length = s.size := by simp
                                                omega
    have HL := Lib.hid hl32
    have H0 := Lib.hid (And.intro hb0 (And.intro hb1 hk0))
    have hs32 : 32 ≤ s.size := by omega
    have HBY := Lib.hid (fun i (h : i < s.size) => byte_at h)
    clear hb0 hb1 hk0 hz hl32 hlt
    go_enter Tryz.func85, Tryz.ntmps85
    go_wp2_with fail
    clear y1 y2
    go_loopw [6] (fun x wr => ∃ k : Nat, k ≤ 32 ∧ x = .int .i64 (k : Int) ∧ Hid (Blk wr w.heap.size (zeros 32) 30 ∧ Blk wr (w.heap.size + 1) (bytes8 (hashUp s.data.toList k)) 30 ∧ Kept (fun _ => False) w wr)) (fun x _ => (32 - intOf x).toNat)
    case atStart => exact ⟨0, by omega, rfl, Lib.hid ⟨H0.out.1, by rw [hashUp_zero]; exact H0.out.2.1, H0.out.2.2⟩⟩
    case round =>
      obtain ⟨k, hk, rfl, HR⟩ := hrel
      by_cases hk32 : k < 32
      · have y1 : decide ((k : Int) < 32) = true := decide_eq_true (by omega)
        have y2 : decide (k < 32) = true := decide_eq_true hk32
        have hks : k < s.size := by omega
        have hby := HBY.out k hks
        have hnx := hashUp_next hk32 hby
        have hlen := hashUp_len HL.out (show k ≤ 32 by omega)
        have hlb : (bytes8 (hashUp s.data.toList k)).length = 32 := by rw [bytes8_len, hlen]
        have hc0 : ∃ v, wr.cell? ⟨w.heap.size + 1, k, none⟩ = some v := ⟨_, HR.out.2.1.cell (List.getElem?_eq_getElem (by rw [hlb]; exact hk32))⟩
        obtain ⟨v0, hv0⟩ := hc0
        have hfr := HR.out.2.1.free k
        have hset := HR.out.2.1.set k (.int .u8 ((s[k]'hks).toNat : Int))
        rw [hnx] at hset
        have hkk := kept_cell wr (w.heap.size + 1) k (.int .u8 ((s[k]'hks).toNat : Int))
        have HN := Lib.hid (And.intro (HR.out.1.kept hkk (by omega)) (And.intro hset (HR.out.2.2.then_ hkk (fun i hi e => by omega))))
        have H32 := Lib.hid hk32
        have j1 : (k : Int) < 32 := by omega
        clear hnx hlen hlb hset hkk hk hby HR
        go_wp2_with fail
        go_roundw
        case rel => exact ⟨k + 1, H32.out, by go_num, HN⟩
        case measure => have := H32.out; simp [intOf]; omega
      · obtain rfl : k = 32 := by omega
        have HR2 := Lib.hid HR.out
        rw [hashUp_all] at HR2
        have hlen : (s.data.toList.take 32).length = 32 := by rw [List.length_take]; have := HL.out; omega
        have HE := Lib.hid (show ∀ r : By, r.length = 32 → s.data.toList = r → s.data.toList.take 32 = r from fun r hr h => by rw [h, List.take_of_length_le (by omega)])
        generalize s.data.toList.take 32 = R at *
        have hrg := HR2.out.2.1.range0
        have hii := HI.out R hlen
        have HS := Lib.hid (And.intro HR2.out.1 hrg)
        have HII := Lib.hid hii
        have HLN := Lib.hid hlen
        have HKK := Lib.hid HR2.out.2.2
        clear HR HR2 hrg hii hlen hk hk32 H0
        have q1 : (32 : Int) ≤ (s.size : Int) := by omega
        go_upto_region 8 with fail
        have hS0 : UnS wr w.heap.size (w.heap.size + 1) R wr.drew := ⟨fun j v hv => (Kept.refl (fun _ => False) wr).drew.cell (HS.out.2 j v hv) id, ⟨zeros 32, zeros_len 32, HS.out.1.drew⟩, (Kept.refl _ _).drew⟩
        refine wp_region_held_drew (S := UnS wr w.heap.size (w.heap.size + 1) R) (by kernel_rfl) hS0 (fun hS1 => ?_)
        refine tky 0 rfl (fun _ _ _ h => h) (yieldsIf_load_mid (by rfl) _ _ rfl (w.heap.size + 1) 0 rfl (bytes8 R) _ (fun w h => h.1) Tryz.underlying30 rfl HII.out) hS1 ?_
        refine tk 1 rfl (fun _ _ _ h => h) hS1 ?_
        refine tk 2 rfl (fun _ _ _ h => h) hS1 ?_
        refine rd1 3 (fun K hK => ?_)
        obtain ⟨_, ⟨C, hC, hb5⟩, hk6⟩ := id hS1
        have hst := hash_stored hb5 hC HLN.out
        rw [if_pos (by rfl)]
        refine wp_store_mid _ _ _ rfl w.heap.size 0 (bytes8 R).toArray rfl rfl hst.1 ?_ (all_oneCell_toArray u8_oneCell) ?_
        · rw [List.size_toArray]; exact HII.out
        simp only [Act.put]
        refine hK.out _ _ (hS1.store HLN.out (by omega)) (fun hS2 => ?_)
        clear hK K
        refine tk 4 rfl (fun _ _ _ h => h) hS2 ?_
        refine tk 5 rfl (fun _ _ _ h => h) hS2 ?_
        refine dn ?_
        go_wp2_with fail
        refine bodyPost_ret (hst.2.result3 rfl rfl Tryz.underlying30 rfl HII.out) rfl ⟨R, _, true, HLN.out, rfl, HE.out, ?_⟩
        exact HKK.out.then_ hS2.2.2 (fun i hi e => by omega)
theorem wrap_rec (size:Int):IntKind.u64.wrap size=((size%18446744073709551616).toNat:Int):=by
 simp only[IntKind.wrap,IntKind.bits,IntKind.signed]
 simp
 omega
def recG (size:Int) (root:By):By:=numL (size%18446744073709551616).toNat++root
theorem recG_rec (size:Nat) (h:size<=4294967295) (root:By):recG (size:Int) root=recordF (size,root):=by
 unfold recG recordF
 rw[show((size:Int)%18446744073709551616).toNat=size by omega]
theorem recG_len (size:Int) {root:By} (hr:root.length=32):(recG size root).length<=132:=by
 unfold recG
 have:=numL_len (n:=(size%18446744073709551616).toNat) (by unfold U64n;omega)
 rw[List.length_append];omega
abbrev RecG (wa w':World) (hb:Nat) (size:Int) (root:By):Prop:=w'.cell? ⟨hb,0,none⟩=some (.int .i64 size)/\w'.rangeAt hb 1 (bytes8 root)/\Kept (fun _=>False) wa w'
theorem recG_next {wa w1 w2:World} {hb:Nat} {size:Int} {root:By} (h:RecG wa w1 hb size root) (hl:hb<wa.heap.size) (k:Kept (fun _=>False) w1 w2):RecG wa w2 hb size root :=
 ⟨k.cell h.1 id,rangeAt_kept h.2.1 k (Nat.lt_of_lt_of_le hl h.2.2.size) id,h.2.2.trans k⟩
theorem rrecord_any (w:World) (size:Int) (root:By) (hr:root.length=32) :
  Calls Tryz.prog 7 #[headV size root] w fun e w'=>e = .returned (.string (strB (recG size root)))/\Kept (fun _=>False) w w':=by
 have hu64:U64n (size%18446744073709551616).toNat:=by unfold U64n;omega
 have HN:=Lib.hid (fun w'=>rnum_any w' _ hu64)
 have HH:=Lib.hid (fun w'=>rhash_any w' root hr)
 have hlen:=numL_len hu64
 have hfin:strB (numL (size%18446744073709551616).toNat)++⟨root.toArray⟩=strB (recG size root):=bstr_cat _ _
 refine Calls.mono (R:=fun e w'=>e = .returned (.string (strB (numL (size%18446744073709551616).toNat)++⟨root.toArray⟩))/\Kept (fun _=>False) w w') ?_ (fun e w' q=>⟨by rw[q.1,hfin],q.2⟩)
 clear hfin
 have u1:=wrap_rec size
 generalize(size%18446744073709551616).toNat=m at *
 generalize numL m=N at *
 have x1:(9223372036854775807<N.length+32)=False:=eq_false (by omega)
 obtain⟨W,hW⟩:∃ W:World,W=w.alloc (.cells (headC size root).toArray 32):=⟨_,rfl⟩
 have b0:Blk W w.heap.size (headC size root) 32:=by rw[hW];exact Blk.new w _ _
 have kW:Kept (fun _=>False) w W:=by rw[hW];exact(Kept.refl _ _).alloc _
 have l0:=b0.lt
 have hrg:W.drew.rangeAt w.heap.size 1 (bytes8 root):=fun j u hu=>b0.drew.cell (by rw[Nat.add_comm,List.getElem?_cons_succ];exact hu)
 have S0:RecG W W.drew w.heap.size size root:=⟨b0.drew.cell (i:=0) rfl,hrg,(Kept.refl _ _).drew⟩
 have ia:(Tryz.prog.info? 30).map (·.size)=some (bytes8 root).length:=by rw[bytes8_len,hr];exact info_h32
 have hu:=Tryz.underlying30
 clear hu64 hrg
 go_enter Tryz.func7,Tryz.ntmps7
 go_wp2_with fail
 change Code.wp _ _ _ _ (w.alloc (.cells (headC size root).toArray 32))
 rw[<- hW]
 clear hW
 go_region_held3 (fun w'=>w'.cell? ⟨w.heap.size,0,none⟩=some (.int .i64 size)/\w'.rangeAt w.heap.size 1 (bytes8 root)/\Kept (fun _=>False) W w') (first|exact S0|exact recG_next (by assumption) l0 (by assumption)) (first|(go_at_call 27;with_reducible refine(HN.out _).mono ?_;rintro e w3 ⟨rfl,hk3⟩)|(go_at_call 28;with_reducible refine(HH.out _).mono ?_;rintro e w3 ⟨rfl,hk3⟩))
 rename_i hh
 go_wp2_with fail
 go_ret
 exact⟨rfl,kW.trans hh.2.2⟩
def WholeAt (l:By) (ps:List By) (a:Nat):Prop:=a<=l.length/\(wholeF l).1=ps++(wholeF (l.drop a)).1/\(wholeF l).2=(wholeF (l.drop a)).2/\ps.length<=a
theorem WholeAt.next {l:By} {ps:List By} {a:Nat} {x:By × By} (h:WholeAt l ps a) (hc:cutF (l.drop a)=some x):WholeAt l (ps++[x.1]) (a+(12+x.1.length)):=by
 obtain⟨h1,h2,h3,h4⟩:=h
 obtain⟨e1,e2⟩:=cutF_eq (p:=x.1) (r:=x.2) hc
 have hl:(l.drop a).length=12+x.1.length+x.2.length:=by rw[e1,List.length_append,frameF_len]
 rw[List.length_drop]at hl
 have hd:l.drop (a+(12+x.1.length))=x.2:=by
  rw[<- List.drop_drop,e1,<- frameF_len,List.drop_left]
 refine⟨by omega,?_,?_,by rw[List.length_append,List.length_singleton];omega⟩
 ·rw[h2,wholeF_some hc,hd,List.append_assoc];rfl
 ·rw[h3,wholeF_some hc,hd]
theorem WholeAt.last {l:By} {ps:List By} {a:Nat} (h:WholeAt l ps a) (hc:cutF (l.drop a)=none):(wholeF l).1=ps/\l.length-(wholeF l).2.length=a:=by
 obtain⟨h1,h2,h3,h4⟩:=h
 rw[wholeF_none hc]at h2 h3
 refine⟨by rw[h2];simp,?_⟩
 rw[h3,List.length_drop]
 omega
def NewTexts (w:World) (v:Value) (ps:List By) (W:World):Prop:=Row W 9 1 v (strV ps)/\(∀ k,v.ownBlock=some k->w.heap.size<=k)/\Kept (fun _=>False) w W
theorem NewTexts.start (w:World):NewTexts w (.slice none 0 0) [] w:=⟨Row.nil _ _ _,fun k q=>by simp[Value.ownBlock]at q,Kept.refl _ _⟩
theorem NewTexts.same {w W W':World} {v:Value} {ps:List By} (h:NewTexts w v ps W) (hk:Kept (fun _=>False) W W'):NewTexts w v ps W':=⟨h.1.kept hk (fun _ _=>id),h.2.1,h.2.2.trans hk⟩
theorem NewTexts.app {w W:World} {v:Value} {ps:List By} (h:NewTexts w v ps W) (hl:ps.length<=100000000) (p:By) :
  ∃ sa n c w3,(Builtin.append_ #[99,99] 99 #[v,.slice (some ⟨W.heap.size,0,none⟩) 1 1]).run Tryz.prog (W.alloc (.cells #[.string (strB p)] 9)) = .ok (.slice sa n c) w3/\Hid (NewTexts w (.slice sa n c) (ps++[p]) w3):=by
 obtain⟨v',w3,hr,g1,g2,g3⟩:=append_str1 h.1 p hl
 obtain⟨sa,n,c,rfl,-⟩:=g1.form (by omega)
 exact⟨sa,n,c,w3,hr,Lib.hid ⟨g1,fun k e=>(g3 k e).elim (h.2.1 k) (fun q=>by have:=h.2.2.size;omega),h.2.2.then_ g2 (fun k hk e=>by have:=h.2.1 k e;omega)⟩⟩
theorem rwhole_any (w:World) (l:By) (hl:l.length<=2000000) :
  Calls Tryz.prog 43 #[.string (strB l)] w fun e w'=>∃ sa n c,e = .returned (.tuple #[.slice sa n c,.int .i64 ((l.length-(wholeF l).2.length:Nat):Int)])/\NewTexts w (.slice sa n c) (wholeF l).1 w':=by
 have HC:=Lib.hid (fun w a ha=>rcut_any w l hl a ha)
 obtain⟨bs,hbs⟩:∃ bs,strB l=bs:=⟨_,rfl⟩
 rw[hbs]at HC ⊢
 clear hbs
 go_enter Tryz.func43,Tryz.ntmps43
 go_wp2_with fail
 go_loopw [4,5] (fun z4 z5 wr=>∃ (a:Nat) (ps:List By) (sa:Option Addr) (n c:Nat),z4 = .slice sa n c/\z5 = .int .i64 (a:Int)/\Hid (WholeAt l ps a)/\Hid (NewTexts w (.slice sa n c) ps wr)) (fun _ z5 _=>l.length-(intOf z5).toNat)
 case atStart=>exact⟨0,[],none,0,0,rfl,rfl,Lib.hid ⟨Nat.zero_le _,by simp,by simp,by simp⟩,Lib.hid (NewTexts.start w)⟩
 case round =>
  obtain⟨a,ps,sa,n,c,rfl,rfl,HW,HN⟩:=hrel
  have hg:=HC.out wr a HW.out.1
  obtain⟨cc,hcc⟩:∃ cc,cutF (l.drop a)=cc:=⟨_,rfl⟩
  rw[hcc]at hg
  cases cc with
  | none =>
   have HG:=Lib.hid hg
   obtain⟨e1,e2⟩:=HW.out.last hcc
   have HE:=Lib.hid (And.intro e1 e2)
   clear hcc hg e1 e2
   go_wp2_with (go_at_call 83;refine HG.out.mono ?_;rintro e w2 ⟨rfl,hk2⟩;have HN2:=Lib.hid (HN.out.same hk2);clear hk2)
   refine bodyPost_ret (v:=.tuple #[.slice sa n c,.int .i64 (a:Int)]) (by simp[results,Tryz.results43,go_sem]) rfl ⟨sa,n,c,by rw[HE.out.2],by rw[HE.out.1];exact HN2.out⟩
  | some x =>
   have hnx:=HW.out.next hcc
   obtain⟨b,hb⟩:∃ b,a+(12+x.1.length)=b:=⟨_,rfl⟩
   have hg2:Calls Tryz.prog 83 #[.string bs,.int .i64 (a:Int)] wr fun e w'=>e = .returned (.tuple #[.string (strB x.1),.int .i64 (b:Int),.bool true])/\Kept (fun _=>False) wr w':=by
    refine hg.mono ?_
    rintro e w' ⟨he,hk⟩
    unfold GetTo at he
    dsimp only at he
    rw[hb]at he
    exact⟨he,hk⟩
   rw[hb]at hnx
   have HG:=Lib.hid hg2
   have HX:=Lib.hid hnx
   have hab:a<b:=by omega
   have hal:=HW.out.1
   have hbl:=hnx.1
   have hp4:=HW.out.2.2.2
   have HAP:=Lib.hid (fun w2 (hk2:Kept (fun _=>False) wr w2)=>(HN.out.same hk2).app (by omega) x.1)
   have HM:=Lib.hid (show l.length-b<l.length-a by omega)
   clear hcc hg hb hg2 hnx hp4
   go_upto_region 6 with (go_at_call 83;refine HG.out.mono ?_;rintro e w2 ⟨rfl,hk2⟩;obtain⟨sb,m,cb,w3,hap,HN3⟩:=HAP.out w2 hk2;clear hk2)
   clear HG HAP HN
   go_wp2_with (at_builtin;refine Lib.wpList_append_run _ rfl _ _ 99 99 rfl _ _ rfl rfl _ _ hap ?_)
   go_roundw
   case rel=>exact⟨b,_,sb,m,cb,rfl,rfl,HX,HN3⟩
   case measure=>have:=HM.out;simp[intOf];omega
end Go.Proofs.YtdmedbhbefdnkaaGreatDoor
