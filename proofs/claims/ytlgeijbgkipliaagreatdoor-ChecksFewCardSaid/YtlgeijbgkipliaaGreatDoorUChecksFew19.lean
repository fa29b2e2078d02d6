/- Contract of package codec: Unhash. Contracts of package frames: mark, Put. Signed heads as cells; package heads: Valid of a signed head that may be. -/
import Derived.Lib.SlBuf
import Derived.Lib.LazyBuf
import Derived.BigQuiet
import Derived.Test.YtlgeijbgkipliaaGreatDoorUChecksFew18
import Derived.Test.YtlgeijbgkipliaaGreatDoorUChecksFew16
set_option linter.unusedVariables false
set_option linter.unusedSimpArgs false
namespace Go.Proofs.YtlgeijbgkipliaaGreatDoor
open Go.RowKit

/-- Three results, of which the first is a whole array. -/
theorem Blk.result3 {P : Program} {w : World} {b : Nat} {c : List Value} {t ty : TypeId} {d : TypeDesc} {fn : Func} {p u v : Tmp} {tmps : Array Value} (h : Blk w b c t) (hf : fn.results = #[.cell p ty, .tmp u, .tmp v]) (hp : tmps.getD p undef = .pointer (some ⟨b, 0, none⟩))
    (hu : P.underlying ty = some d) (hd : (match d with | .struct _ | .array _ _ => true | _ => false) = true) (hi : (P.info? ty).map (·.size) = some c.length) :
    (results fn tmps).run P w = .ok (.tuple #[.agg c.toArray, tmps.getD u undef, tmps.getD v undef]) w := by
  have hp' : tmps[p]?.getD undef = .pointer (some ⟨b, 0, none⟩) := by simpa using hp
  simp [results, hf, hp', asAddr, run_loadVar_row w b t ty c.toArray (0, 0) d h hu hd (by rw [hi, List.size_toArray])]
theorem zeros_bytes8 (k : Nat) : zeros k = bytes8 (List.replicate k 0) := by simp [zeros, bytes8]
/-- What Unhash answers. -/
def unhashAt (s : ByteArray) : Array Value := if 32 ≤ s.size then #[hashV (s.extract 0 32).data.toList, .string (s.extract 32 s.size), .bool true]
  else #[hashV (List.replicate 32 0), .string "".toUTF8, .bool false]
/-- 'copy(h[:], t)' onto a whole hash, t a string of 32 bytes or of none. -/
theorem copy_hash {w : World} {b : Nat} {c : List Value} (h : Blk w b c 57) (hc : c.length = 32) (t : ByteArray) (ht : t.size ≤ 32) :
    (Builtin.copy_ #[100, 9] 3 #[.slice (some ⟨b, 0, none⟩) 32 32, .string t]).run Tryz.prog w = .ok (.int .i64 (t.size : Int)) (w.setCells b 0 (bytes8 t.data.toList)) := by
  have hth := h.there 0 t.size (by omega)
  exact run_copy_string (P := Tryz.prog) w 100 9 3 5 b 0 32 32 t Tryz.underlying100 sizeU8 ht (fun j hj => (hth j hj).1) (fun j hj => (hth j hj).2)
set_option maxRecDepth 100000 in
theorem unhash_any (w : World) (s : ByteArray) (hs : Short s.size) :
    Calls Tryz.prog 148 #[.string s] w fun e w' => e = .returned (.tuple (unhashAt s)) ∧ Kept (fun _ => False) w w' := by
  have hb := Blk.new w (zeros 32) 57
  have HT := Lib.hid (fun w' => take_any w' s 32 hs)
  obtain ⟨t, r, ok, l, hl, ht, hcp, hte, hu⟩ : ∃ (t r : ByteArray) (ok : Bool) (l : List UInt8), l.length = 32 ∧ t.size ≤ 32 ∧ splice (zeros 32) 0 (bytes8 t.data.toList) = bytes8 l ∧
      ((if 32 ≤ s.size then #[Value.string (s.extract 0 32), .string (s.extract 32 s.size), .bool true] else #[.string "".toUTF8, .string "".toUTF8, .bool false]) : Array Value) = #[.string t, .string r, .bool ok] ∧ unhashAt s = #[hashV l, .string r, .bool ok] := by
    by_cases hle : 32 ≤ s.size
    · have h32 : (s.extract 0 32).size = 32 := by rw [ByteArray.size_extract]; omega
      have h33 : (s.extract 0 32).data.toList.length = 32 := by rw [← h32]; simp
      exact ⟨s.extract 0 32, s.extract 32 s.size, true, (s.extract 0 32).data.toList, h33, by omega, splice_whole (by rw [bytes8_len, zeros_len, h33]), if_pos hle, if_pos hle⟩
    · exact ⟨"".toUTF8, "".toUTF8, false, List.replicate 32 0, by simp, by decide, zeros_bytes8 32, if_neg hle, if_neg hle⟩
  rw [hu]
  have HTE := Lib.hid hte
  have HCP := Lib.hid hcp
  have hinf : (Tryz.prog.info? 57).map (·.size) = some (bytes8 l).length := by rw [bytes8_len, hl]; exact info_h32
  have HI := Lib.hid hinf
  clear hte hu hcp hinf
  go_enter Tryz.func148, Tryz.ntmps148
  go_wp2_with (first | (go_at_call 163; refine (HT.out _).mono ?_; rintro e w1 ⟨rfl, hk1⟩; rw [HTE.out]; have hb1 := hb.kept hk1 id; have hrun := copy_hash hb1 (zeros_len 32) t ht; have hb2 := hb1.setCells 0 (bytes8 t.data.toList) (by rw [bytes8_len, zeros_len]; simpa using ht); rw [HCP.out] at hb2; have HB := Lib.hid hb2; have HK := Lib.hid hk1; clear hb1 hb2 hk1; generalize hw2 : w1.setCells w.heap.size 0 (bytes8 t.data.toList) = w2 at hrun HB) | (refine wpList_load_mid rfl 57 _ rfl w.heap.size 0 rfl (bytes8 l) _ HB.out.range0 Tryz.underlying57 rfl HI.out ?_) | (refine wpList_store_mid rfl 57 _ _ rfl w.heap.size 0 (bytes8 l).toArray rfl rfl ?hth ?hi ?h1 ?_))
  case hth => rw [List.size_toArray]; exact HB.out.there 0 _ (Nat.le_of_eq (Nat.zero_add _))
  case hi => simpa using HI.out
  case h1 => exact all_oneCell_toArray (fun x hx => u8_oneCell x hx)
  have hb3 := HB.out.setCells 0 (bytes8 l) (Nat.le_of_eq (Nat.zero_add _))
  rw [splice_whole rfl] at hb3
  refine bodyPost_ret (hb3.result3 rfl rfl Tryz.underlying57 rfl HI.out) rfl ⟨rfl, ?_⟩
  subst hw2
  exact ((((Kept.refl _ _).alloc _).trans HK.out).then_ (kept_setCells _ _ _ _) (fun i hi e => by omega)).then_ (kept_setCells _ _ _ _) (fun i hi e => by omega)
end Go.Proofs.YtlgeijbgkipliaaGreatDoor

namespace Go.Proofs.YtlgeijbgkipliaaGreatDoor
open Go.RowKit

/-- A payload's head. -/
def markF (p : List UInt8) : List UInt8 := be 4 p.length ++ (shaF (be 4 p.length ++ p)).take 8
theorem markF_len (p : List UInt8) : (markF p).length = 12 := by simp [markF, be_len, shaF_len]
theorem bstr_len (s : ByteArray) : s.data.toList.length = s.size := by simp
theorem bstr_append (l : List UInt8) (s : ByteArray) : ((⟨l.toArray⟩ : ByteArray) ++ s).data.toList = l ++ s.data.toList := by
  rw [ByteArray.data_append]; simp
theorem bstr_eq {s t : ByteArray} (h : s.data.toList = t.data.toList) : s = t := by
  obtain ⟨⟨a⟩⟩ := s; obtain ⟨⟨b⟩⟩ := t
  simp at h
  subst h; rfl
/-- A hash that is stored into a whole one. -/
theorem hash_stored {w : World} {b : Nat} {c : List Value} {t : TypeId} (h : Blk w b c t) (hc : c.length = 32) {H : List UInt8} (hl : H.length = 32) : w.there b 0 (bytes8 H).toArray.size ∧ Blk (w.setCells b 0 (bytes8 H)) b (bytes8 H) t := by
  constructor
  · rw [List.size_toArray, bytes8_len, hl]; exact h.there 0 32 (by omega)
  · have := h.setCells 0 (bytes8 H) (by rw [bytes8_len]; omega)
    rwa [splice_whole (by rw [bytes8_len]; omega)] at this
/-- 'string(h[:n])', h in a block of its own. -/
theorem head_string {w : World} {b n cap : Nat} {H : List UInt8} {t : TypeId} (h : Blk w b (bytes8 H) t) (hn : n ≤ H.length) :
    (convert 100 9 (.slice (some ⟨b, 0, none⟩) n cap)).run Tryz.prog w = .ok (.string ⟨(H.take n).toArray⟩) w := by
  refine run_string_of (H.take n) (by rw [List.length_take]; omega) fun j u hu => ?_
  rw [Nat.zero_add]
  refine h.cell ?_
  simp only [bytes8, List.map_take] at hu ⊢
  have := (List.getElem?_eq_some_iff.1 hu).1
  rw [List.getElem?_take_of_lt (by simp at this; omega)] at hu
  exact hu
theorem info_hash {H : List UInt8} (hl : H.length = 32) : (Tryz.prog.info? 57).map (·.size) = some (bytes8 H).toArray.size := by rw [List.size_toArray, bytes8_len, hl]; exact info_h32
theorem bstr_cat (l r : List UInt8) : (⟨l.toArray⟩ : ByteArray) ++ (⟨r.toArray⟩ : ByteArray) = ⟨(l ++ r).toArray⟩ := bstr_eq (by rw [bstr_append])
set_option maxRecDepth 100000 in
theorem mark_any (w : World) (s : ByteArray) (hs : s.size ≤ 900000) (ht : Tab w) :
    Calls Tryz.prog 114 #[.string s] w fun e w' => e = .returned (.string ⟨(markF s.data.toList).toArray⟩) ∧ Kept (fun _ => False) w w' := by
  have x1 := wrap_u64 (n := s.size) (U64n.small (by omega))
  have HP := Lib.hid (fun w' => put_int w' (s.size : Int) s.size 4 4 rfl rfl (by omega) (by omega))
  have hb4 : (⟨(be 4 s.size).toArray⟩ : ByteArray).size = 4 := by show (be 4 s.size).toArray.size = 4; rw [List.size_toArray, be_len]
  have x2 : (⟨(be 4 s.size).toArray⟩ : ByteArray).size + s.size ≤ 900004 := by omega
  have hsum : ∀ w', Tab w' → Calls Tryz.prog 145 #[.string (⟨(be 4 s.size).toArray⟩ ++ s)] w' fun e w'' => e = .returned (.agg (bytes8 (shaF (be 4 s.size ++ s.data.toList))).toArray) ∧ Kept (fun _ => False) w' w'' := by
    intro w' ht'
    have := sum_any w' (⟨(be 4 s.size).toArray⟩ ++ s) (by rw [ByteArray.size_append]; omega) ht'
    rwa [bstr_append] at this
  have HS := Lib.hid hsum
  clear hsum
  have hm : markF s.data.toList = be 4 s.size ++ (shaF (be 4 s.size ++ s.data.toList)).take 8 := by unfold markF; rw [bstr_len]
  rw [hm]
  clear hm
  have hl := shaF_len (be 4 s.size ++ s.data.toList)
  generalize shaF (be 4 s.size ++ s.data.toList) = H at *
  generalize be 4 s.size = B at *
  have HI := Lib.hid (info_hash hl)
  have HL := Lib.hid hl
  clear hl
  go_enter Tryz.func114, Tryz.ntmps114
  go_wp2_with (first | (go_at_call 144; refine (HP.out _).mono ?_; rintro e w1 ⟨rfl, hk1⟩) | (go_at_call 145; refine (HS.out _ (ht.same hk1)).mono ?_; rintro e w2 ⟨rfl, hk2⟩; have HB := Lib.hid (hash_stored (Blk.new w2 (zeros 32) 57) (zeros_len 32) HL.out)) | (refine wpList_store_mid rfl 57 _ _ rfl w2.heap.size 0 (bytes8 H).toArray rfl rfl ?hth ?hi ?h1 ?hk; (case' hk => generalize hw3 : World.setCells _ w2.heap.size 0 _ = w3; have hb3 : Blk w3 w2.heap.size (bytes8 H) 57 := (by rw [← hw3]; exact HB.out.2); have hst := head_string (n := 8) (cap := 32) hb3 (by rw [HL.out]; omega))))
  case hth => exact HB.out.1
  case hi => exact HI.out
  case h1 => exact all_oneCell_toArray (fun x hx => u8_oneCell x hx)
  go_ret
  refine ⟨by rw [bstr_cat]; rfl, ?_⟩
  subst hw3
  exact ((hk1.trans hk2).alloc _).then_ (kept_setCells _ _ _ _) (fun i hi e => by have := (hk1.trans hk2).size; omega)
/-- A payload's frame. -/
def frameF (p : List UInt8) : List UInt8 := markF p ++ p
theorem frameF_len (p : List UInt8) : (frameF p).length = 12 + p.length := by simp [frameF, markF_len]
set_option maxRecDepth 100000 in
theorem frame_any (w : World) (s : ByteArray) (hs : s.size ≤ 65536) (ht : Tab w) :
    Calls Tryz.prog 74 #[.string s] w fun e w' => e = .returned (.tuple #[.string ⟨(frameF s.data.toList).toArray⟩, .int .i64 0]) ∧ Kept (fun _ => False) w w' := by
  have x1 : decide (65536 < (s.size : Int)) = false := by simp; omega
  have hm := mark_any w s (by omega) ht
  have hml := markF_len s.data.toList
  unfold frameF
  generalize hB : markF s.data.toList = B at *
  clear hB
  have hb4 : (⟨B.toArray⟩ : ByteArray).size = 12 := by show B.toArray.size = 12; rw [List.size_toArray, hml]
  have x2 : (⟨B.toArray⟩ : ByteArray).size + s.size ≤ 900004 := by omega
  go_enter Tryz.func74, Tryz.ntmps74
  go_wp2_with (go_at_call 114; refine hm.mono ?_; rintro e w1 ⟨rfl, hk1⟩)
  go_ret2
  have e : (⟨B.toArray⟩ : ByteArray) ++ s = ⟨(B ++ s.data.toList).toArray⟩ := bstr_eq (bstr_append B s)
  exact ⟨by rw [← e]; rfl, hk1⟩
end Go.Proofs.YtlgeijbgkipliaaGreatDoor

namespace Go.Proofs.YtlgeijbgkipliaaGreatDoor
open Go.RowKit

/-- A head, as a value. -/
abbrev headC (size : Int) (root : By) : List Value := .int .i64 size :: bytes8 root
abbrev headV (size : Int) (root : By) : Value := .agg (headC size root).toArray
/-- A signed head, as cells and as a value. -/
def signedC (size : Int) (root : By) (i : Int) (sig : ByteArray) (v : Value) : List Value := headC size root ++ [.int .i64 i, .string sig, v]
abbrev signedV (size : Int) (root : By) (i : Int) (sig : ByteArray) (v : Value) : Value := .agg (signedC size root i sig v).toArray
theorem signed_at {size : Int} {root : By} {i : Int} {sig : ByteArray} {v : Value} (hr : root.length = 32) : (signedC size root i sig v)[0]? = some (.int .i64 size) ∧ (signedC size root i sig v)[33]? = some (.int .i64 i) ∧ (signedC size root i sig v)[34]? = some (.string sig) ∧ (signedC size root i sig v)[35]? = some v := by
  have hl : (headC size root).length = 33 := by rw [List.length_cons, bytes8_len, hr]
  unfold signedC
  refine ⟨rfl, ?_, ?_, ?_⟩
  · rw [List.getElem?_append_right (by omega), hl]; rfl
  · rw [List.getElem?_append_right (by omega), hl]; rfl
  · rw [List.getElem?_append_right (by omega), hl]; rfl
set_option maxRecDepth 100000 in
set_option maxHeartbeats 400000 in
theorem valid_ok (w : World) (size i : Nat) (root : By) (sig : ByteArray) (a : Option Addr) (c : Nat) (hr : root.length = 32) (hz : size ≤ 4096) (hi : i < 8) (hs : sig.size = 16384) :
    Calls Tryz.prog 113 #[signedV (size : Int) root (i : Int) sig (.slice a 3 c)] w fun e w' => e = .returned (.bool true) ∧ Kept (fun _ => False) w w' := by
  have hb := Blk.new w (signedC (size : Int) root (i : Int) sig (.slice a 3 c)) 63
  obtain ⟨q0, q1, q2, q3⟩ := signed_at (size := (size : Int)) (i := (i : Int)) (sig := sig) (v := .slice a 3 c) hr
  have c0 := hb.cell q0
  have c1 := hb.cell q1
  have c2 := hb.cell q2
  have c3 := hb.cell q3
  have y1 : decide ((0 : Int) ≤ (size : Int)) = true := decide_eq_true (by omega)
  have y2 : decide ((size : Int) ≤ 4096) = true := decide_eq_true (by omega)
  have y3 : decide ((0 : Int) ≤ (i : Int)) = true := decide_eq_true (by omega)
  have y4 : decide ((i : Int) < 8) = true := decide_eq_true (by omega)
  clear q0 q1 q2 q3 hb
  go_enter Tryz.func113, Tryz.ntmps113
  go_wp2_with fail
  go_ret
  exact ⟨rfl, (Kept.refl _ _).alloc _⟩
end Go.Proofs.YtlgeijbgkipliaaGreatDoor
