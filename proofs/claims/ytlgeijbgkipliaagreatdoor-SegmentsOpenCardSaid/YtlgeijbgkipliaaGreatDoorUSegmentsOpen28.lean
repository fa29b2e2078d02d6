/- Codec4 Frames1 ReadP Trees1 Trees2 SignC Rough -/
import Derived.Lib.SlBuf
import Derived.Lib.LazyBuf
import Derived.Deep.RegionHeld3
import Derived.BigQuiet
import Derived.Lib.AppendZeros
import Derived.Test.YtlgeijbgkipliaaGreatDoorUSegmentsOpen27
import Derived.Test.YtlgeijbgkipliaaGreatDoorUSegmentsOpen25
import Derived.Test.YtlgeijbgkipliaaGreatDoorUSegmentsOpen01
import Derived.Test.YtlgeijbgkipliaaGreatDoorUSegmentsOpen14
set_option linter.unusedVariables false
set_option linter.unusedSimpArgs false
namespace Go.Proofs.YtlgeijbgkipliaaGreatDoor
open Go.RowKit
end Go.Proofs.YtlgeijbgkipliaaGreatDoor

namespace Go.Proofs.YtlgeijbgkipliaaGreatDoor
open Go.RowKit
def markF (p : List UInt8) : List UInt8 := be 4 p.length ++ (shaF (be 4 p.length ++ p)).take 8
theorem markF_len (p : List UInt8) : (markF p).length = 12 := by simp [markF, be_len, shaF_len]
theorem bstr_len (s : ByteArray) : s.data.toList.length = s.size := by simp
theorem bstr_append (l : List UInt8) (s : ByteArray) : ((⟨l.toArray⟩ : ByteArray) ++ s).data.toList = l ++ s.data.toList := by
  rw [ByteArray.data_append]; simp
theorem bstr_eq {s t : ByteArray} (h : s.data.toList = t.data.toList) : s = t := by
  obtain ⟨⟨a⟩⟩ := s; obtain ⟨⟨b⟩⟩ := t
  simp at h
  subst h; rfl
theorem hash_stored {w : World} {b : Nat} {c : List Value} {t : TypeId} (h : Blk w b c t) (hc : c.length = 32) {H : List UInt8} (hl : H.length = 32) : w.there b 0 (bytes8 H).toArray.size ∧ Blk (w.setCells b 0 (bytes8 H)) b (bytes8 H) t := by
  constructor
  · rw [List.size_toArray, bytes8_len, hl]; exact h.there 0 32 (by omega)
  · have := h.setCells 0 (bytes8 H) (by rw [bytes8_len]; omega)
    rwa [splice_whole (by rw [bytes8_len]; omega)] at this
theorem head_string {w : World} {b n cap : Nat} {H : List UInt8} {t : TypeId} (h : Blk w b (bytes8 H) t) (hn : n ≤ H.length) :
    (convert 100 9 (.slice (some ⟨b, 0, none⟩) n cap)).run Tryz.prog w = .ok (.string ⟨(H.take n).toArray⟩) w := by
  refine run_string_of (H.take n) (by rw [List.length_take]; omega) fun j u hu => ?_
  rw [Nat.zero_add]
  refine h.cell ?_
  simp only [bytes8, List.map_take] at hu ⊢
  have := (List.getElem?_eq_some_iff.1 hu).1
  rw [List.getElem?_take_of_lt (by simp at this; omega)] at hu
  exact hu
theorem info_hash {H : List UInt8} (hl : H.length = 32) : (Tryz.prog.info? 57).map (·.size) = some (bytes8 H).toArray.size := by rw [List.size_toArray, bytes8_len, hl]; exact info_h32
theorem bstr_cat (l r : List UInt8) : (⟨l.toArray⟩ : ByteArray) ++ (⟨r.toArray⟩ : ByteArray) = ⟨(l ++ r).toArray⟩ := bstr_eq (by rw [bstr_append])
set_option maxRecDepth 100000 in
theorem mark_any (w : World) (s : ByteArray) (hs : s.size ≤ 900000) (ht : Tab w) :
    Calls Tryz.prog 114 #[.string s] w fun e w' => e = .returned (.string ⟨(markF s.data.toList).toArray⟩) ∧ Kept (fun _ => False) w w' := by
  have x1 := wrap_u64 (n := s.size) (U64n.small (by omega))
  have HP := Lib.hid (fun w' => put_int w' (s.size : Int) s.size 4 4 rfl rfl (by omega) (by omega))
  have hb4 : (⟨(be 4 s.size).toArray⟩ : ByteArray).size = 4 := by show (be 4 s.size).toArray.size = 4; rw [List.size_toArray, be_len]
  have x2 : (⟨(be 4 s.size).toArray⟩ : ByteArray).size + s.size ≤ 900004 := by omega
  have hsum : ∀ w', Tab w' → Calls Tryz.prog 145 #[.string (⟨(be 4 s.size).toArray⟩ ++ s)] w' fun e w'' => e = .returned (.agg (bytes8 (shaF (be 4 s.size ++ s.data.toList))).toArray) ∧ Kept (fun _ => False) w' w'' := by
    intro w' ht'
    have := sum_any w' (⟨(be 4 s.size).toArray⟩ ++ s) (by rw [ByteArray.size_append]; omega) ht'
    rwa [bstr_append] at this
  have HS := Lib.hid hsum
  clear hsum
  have hm : markF s.data.toList = be 4 s.size ++ (shaF (be 4 s.size ++ s.data.toList)).take 8 := by unfold markF; rw [bstr_len]
  rw [hm]
  clear hm
  have hl := shaF_len (be 4 s.size ++ s.data.toList)
  generalize shaF (be 4 s.size ++ s.data.toList) = H at *
  generalize be 4 s.size = B at *
  have HI := Lib.hid (info_hash hl)
  have HL := Lib.hid hl
  clear hl
  go_enter Tryz.func114, Tryz.ntmps114
  go_wp2_with (first | (go_at_call 144; refine (HP.out _).mono ?_; rintro e w1 ⟨rfl, hk1⟩) | (go_at_call 145; refine (HS.out _ (ht.same hk1)).mono ?_; rintro e w2 ⟨rfl, hk2⟩; have HB := Lib.hid (hash_stored (Blk.new w2 (zeros 32) 57) (zeros_len 32) HL.out)) | (refine wpList_store_mid rfl 57 _ _ rfl w2.heap.size 0 (bytes8 H).toArray rfl rfl ?hth ?hi ?h1 ?hk; (case' hk => generalize hw3 : World.setCells _ w2.heap.size 0 _ = w3; have hb3 : Blk w3 w2.heap.size (bytes8 H) 57 := (by rw [← hw3]; exact HB.out.2); have hst := head_string (n := 8) (cap := 32) hb3 (by rw [HL.out]; omega))))
  case hth => exact HB.out.1
  case hi => exact HI.out
  case h1 => exact all_oneCell_toArray (fun x hx => u8_oneCell x hx)
  go_ret
  refine ⟨by rw [bstr_cat]; rfl, ?_⟩
  subst hw3
  exact ((hk1.trans hk2).alloc _).then_ (kept_setCells _ _ _ _) (fun i hi e => by have := (hk1.trans hk2).size; omega)
def frameF (p : List UInt8) : List UInt8 := markF p ++ p
theorem frameF_len (p : List UInt8) : (frameF p).length = 12 + p.length := by simp [frameF, markF_len]
set_option maxRecDepth 100000 in
theorem frame_any (w : World) (s : ByteArray) (hs : s.size ≤ 65536) (ht : Tab w) :
    Calls Tryz.prog 74 #[.string s] w fun e w' => e = .returned (.tuple #[.string ⟨(frameF s.data.toList).toArray⟩, .int .i64 0]) ∧ Kept (fun _ => False) w w' := by
  have x1 : decide (65536 < (s.size : Int)) = false := by simp; omega
  have hm := mark_any w s (by omega) ht
  have hml := markF_len s.data.toList
  unfold frameF
  generalize hB : markF s.data.toList = B at *
  clear hB
  have hb4 : (⟨B.toArray⟩ : ByteArray).size = 12 := by show B.toArray.size = 12; rw [List.size_toArray, hml]
  have x2 : (⟨B.toArray⟩ : ByteArray).size + s.size ≤ 900004 := by omega
  go_enter Tryz.func74, Tryz.ntmps74
  go_wp2_with (go_at_call 114; refine hm.mono ?_; rintro e w1 ⟨rfl, hk1⟩)
  go_ret2
  have e : (⟨B.toArray⟩ : ByteArray) ++ s = ⟨(B ++ s.data.toList).toArray⟩ := bstr_eq (bstr_append B s)
  exact ⟨by rw [← e]; rfl, hk1⟩
end Go.Proofs.YtlgeijbgkipliaaGreatDoor

namespace Go.Proofs.YtlgeijbgkipliaaGreatDoor
open Go.RowKit
end Go.Proofs.YtlgeijbgkipliaaGreatDoor

namespace Go.Proofs.YtlgeijbgkipliaaGreatDoor
open Go.RowKit
end Go.Proofs.YtlgeijbgkipliaaGreatDoor

namespace Go.Proofs.YtlgeijbgkipliaaGreatDoor
open Go.RowKit
end Go.Proofs.YtlgeijbgkipliaaGreatDoor

namespace Go.Proofs.YtlgeijbgkipliaaGreatDoor
open Go.RowKit
end Go.Proofs.YtlgeijbgkipliaaGreatDoor

namespace Go.Proofs.YtlgeijbgkipliaaGreatDoor
open Go.RowKit
end Go.Proofs.YtlgeijbgkipliaaGreatDoor
