/- The law DiskOrder, walked. -/
import Derived.Test.YtahiimcdmojngaaOrderM
import Derived.Test.YtahiimcdmojngaaStored
import Derived.Test.YtahiimcdmojngaaOpen
namespace Go.Proofs.Ytahiimcdmojngaa
open Go.RowKit Go.Joins

/-- What is known of the scraps that came in. -/
def Scraps (w : World) (a : Option Addr) (len : Nat) : Prop := ∀ i, i < len → ∃ (k : Nat) (s : ByteArray), k ≤ 255 ∧ s.size ≤ 9223372036854775807 ∧ ElemAt w a 2 i [.int .u8 (k : Int), .string s]

set_option maxRecDepth 100000 in
theorem scraps_of {H : Type} {enc : TypeId × Value → H} {base : Nat} {dd : DataW H} {pp : List MemPlace} (v : Value) (w : World) (hv : Value.okWide Try.prog w .any base 67 v) (h : DataW.Trod enc Try.prog w 0 (fun _ => true) true 67 v dd pp) :
    ∃ a len cap, v = .slice a len cap ∧ len ≤ 9223372036854775807 ∧ Scraps w a len := by
  obtain ⟨a, len, cap, rfl, hl, hel⟩ := open_rows (n := 2) Try.underlying67 (by kernel_rfl) (by omega) hv h
  refine ⟨a, len, cap, rfl, by unfold maxLen at hl; omega, fun i hi => ?_⟩
  obtain ⟨cs, m, x, hlen, hat, hx⟩ := hel i hi
  obtain ⟨y0, y1, n, _, _, h0, h1⟩ := Go.ChangeShapes.trod_struct2 Try.underlying73 hx
  match cs, hlen with
  | [c0, c1], _ =>
    obtain ⟨a0, e0, _, w0⟩ := DataW.trod_int Try.underlying5 h0
    obtain ⟨a1, e1, _, w1⟩ := DataW.trod_string Try.underlying9 h1
    have k1 : Try.prog.cellsOf 5 = 1 := by kernel_rfl
    have k2 : Try.prog.cellsOf 9 = 1 := by kernel_rfl
    simp [k1, k2] at e0 e1
    subst e0 e1
    obtain ⟨q1, q2⟩ := wf_u8 w0
    obtain ⟨k, rfl⟩ := Int.eq_ofNat_of_zero_le q1
    exact ⟨k, a1, by omega, w1, hat⟩

/-- The disk with j empty files. -/
def ordC (j : Nat) : DiskM := ⟨(List.range j).map (fun n : Nat => ((n : Int), ([] : List UInt8))), [], 3000, false, 0, false, 0, 0⟩
theorem ordC_create (j : Nat) (h : j < 4) : (ordC j).create j = (0, ordC (j + 1)) := by
  match j, h with
  | 0, _ => rfl
  | 1, _ => rfl
  | 2, _ => rfl
  | 3, _ => rfl
theorem ordC_len (j : Nat) : (ordC j).files.length + (ordC j).loose.length = j := by simp [ordC]

def wcells (W : Nat → ByteArray) : List Value := [.string (W 0), .string (W 1), .string (W 2), .string (W 3)]
def texts (W : Nat → ByteArray) : Nat → List UInt8 := fun n => (W n).data.toList
/-- How it stands behind i scraps. -/
def OrdRel (keep : Int) (sure : Nat) (M : DiskM) (left : Nat) (W : Nat → ByteArray) (i : Nat) : Prop :=
  OrdM M i ∧ ((i ≤ sure ∧ Ahead keep M left (texts W)) ∨ (sure < i ∧ Behind keep M left (texts W))) ∧ ∀ n, n < 4 → (W n).size ≤ 50 * i

def updB (T : Nat → ByteArray) (m : Nat) (x : ByteArray) : Nat → ByteArray := fun n => if n = m then x else T n
theorem texts_updB (T : Nat → ByteArray) (m : Nat) (x : ByteArray) : texts (updB T m x) = upd (texts T) m x.data.toList := by
  funext n; unfold texts updB upd; split <;> rfl
theorem wcells_set (T : Nat → ByteArray) (m : Nat) (hm : m < 4) (x : ByteArray) : (wcells T).set m (.string x) = wcells (updB T m x) := by
  match m, hm with
  | 0, _ => rfl
  | 1, _ => rfl
  | 2, _ => rfl
  | 3, _ => rfl
theorem wcells_get (T : Nat → ByteArray) (m : Nat) (hm : m < 4) : (wcells T)[m]? = some (.string (T m)) := by
  match m, hm with
  | 0, _ => rfl
  | 1, _ => rfl
  | 2, _ => rfl
  | 3, _ => rfl
theorem toList_append_bytes (a b : ByteArray) : (a ++ b).data.toList = a.data.toList ++ b.data.toList := by simp
theorem toList_head (s : ByteArray) (n : Nat) : (s.extract 0 n).data.toList = s.data.toList.take n := by simp
theorem size_updB {T : Nat → ByteArray} {i m : Nat} {x : ByteArray} (h : ∀ n, n < 4 → (T n).size ≤ 50 * i) (hx : x.size ≤ 50 * (i + 1)) : ∀ n, n < 4 → (updB T m x n).size ≤ 50 * (i + 1) := by
  intro n hn
  unfold updB
  split
  · exact hx
  · have := h n hn; omega
section
variable {keep : Int} {sure left i m : Nat} {M : DiskM} {T : Nat → ByteArray} {s : ByteArray}
theorem OrdRel.ahead (h : OrdRel keep sure M left T i) (hi : i < sure) (h31 : i < 31) (hm : m < 4) (hs : s.size ≤ 50) : M.append m s.data.toList = (0, M.appended m s.data.toList) ∧ OrdRel keep sure (M.appended m s.data.toList) left (updB T m (T m ++ s)) (i + 1) := by
  obtain ⟨h1, h2, h3⟩ := h
  obtain ⟨e1, e2⟩ := h1.append h31 hm (s := s.data.toList) (by simpa using hs)
  refine ⟨e1, e2, Or.inl ⟨by omega, ?_⟩, size_updB h3 ?_⟩
  · rcases h2 with ⟨_, h2⟩ | ⟨q, _⟩
    · rw [texts_updB, toList_append_bytes]
      exact h2.append h1.ok hm _
    · omega
  · have := h3 m hm
    rw [ByteArray.size_append]
    omega
theorem behind_step (h1 : OrdM M i) (h2 : Behind keep M left (texts T)) (h3 : ∀ n, n < 4 → (T n).size ≤ 50 * i) (hi : sure ≤ i) (h31 : i < 31) (hm : m < 4) (hs : s.size ≤ 50) :
    M.append m s.data.toList = (0, M.appended m s.data.toList) ∧ OrdRel keep sure (M.appended m s.data.toList) (left - min s.size left) (updB T m (T m ++ s.extract 0 (min s.size left))) (i + 1) := by
  obtain ⟨e1, e2⟩ := h1.append h31 hm (s := s.data.toList) (by simpa using hs)
  refine ⟨e1, e2, Or.inr ⟨by omega, ?_⟩, size_updB h3 ?_⟩
  · rw [texts_updB, toList_append_bytes, toList_head]
    have := h2.append h1.ok hm s.data.toList
    have e : s.data.toList.length = s.size := by simp
    rw [e] at this
    exact this
  · have := h3 m hm
    rw [ByteArray.size_append, ByteArray.size_extract]
    omega
theorem OrdRel.behind (h : OrdRel keep sure M left T i) (hi : sure < i) (h31 : i < 31) (hm : m < 4) (hs : s.size ≤ 50) :
    M.append m s.data.toList = (0, M.appended m s.data.toList) ∧ OrdRel keep sure (M.appended m s.data.toList) (left - min s.size left) (updB T m (T m ++ s.extract 0 (min s.size left))) (i + 1) := by
  obtain ⟨h1, h2, h3⟩ := h
  rcases h2 with ⟨q, _⟩ | ⟨_, h2⟩
  · omega
  · exact behind_step h1 h2 h3 (by omega) h31 hm hs
theorem OrdRel.sync (h : OrdRel keep sure M left T i) (hi : i = sure) : M.sync = (0, { M with loose := [] }) ∧ OrdM { M with loose := [] } i ∧ Behind keep { M with loose := [] } left (texts T) := by
  obtain ⟨h1, h2, h3⟩ := h
  rcases h2 with ⟨_, h2⟩ | ⟨q, _⟩
  · exact ⟨h1.sync.1, h1.sync.2, h2.sync⟩
  · omega
end

theorem extract_all (s : ByteArray) : s.extract 0 s.size = s := by
  apply ByteArray.ext
  apply Array.ext'
  simp [List.take_of_length_le]
/-- Up, and a crash leads to what is wanted. -/
structure Crashy (keep : Int) (M : DiskM) (T : Nat → ByteArray) (t : Nat) : Prop where
  ok : M.Ok
  down : M.down = false
  fails : M.fails = false
  starts : M.starts = (t : Int)
  want : ∀ n : Nat, n < 4 → AM.get (M.crash keep).files n = some (texts T n)
theorem Crashy.first {keep : Int} {M : DiskM} {left i : Nat} {T : Nat → ByteArray} (h1 : OrdM M i) (h2 : Behind keep M left (texts T)) : Crashy keep M T 0 :=
  ⟨h1.ok, h1.down, h1.fails, h1.starts, h2.crash h1.ok⟩
theorem Crashy.next {keep : Int} {M : DiskM} {t : Nat} {T : Nat → ByteArray} (h : Crashy keep M T t) : M.crashR keep = (0, M.crash keep) ∧ (M.crash keep).sync = (61, M.crash keep) ∧ (M.crash keep).startR = (0, (M.crash keep).start) ∧ Crashy keep (M.crash keep).start T (t + 1) := by
  have hok := h.ok.crash keep
  refine ⟨by simp [DiskM.crashR, h.down], by simp [DiskM.sync, DiskM.crash], by simp [DiskM.startR, DiskM.crash], ⟨⟨hok.rise, hok.keys, hok.cap0, hok.cap1, hok.room, hok.lo, hok.loks, hok.left1, hok.left2, hok.count, hok.keepk⟩, rfl, rfl, ?_, h.want⟩⟩
  show M.starts + 1 = _
  rw [h.starts]
  omega

set_option maxRecDepth 100000 in
set_option maxHeartbeats 8000000 in
theorem diskOrder_walk {H : Type} {enc : TypeId × Value → H} {base : Nat} {dd : DataW H} {pp : List MemPlace} (v : Value) (a1 a2 : Int) (w : World) (hv : Value.okWide Try.prog w .any base 67 v) (h : DataW.Trod enc Try.prog w 0 (fun _ => true) true 67 v dd pp) (w1 : (Lit.int .u8 a1).wf = true) (w2 : (Lit.int .i64 a2).wf = true) :
    Calls Try.prog 10 #[v, .int .u8 a1, .int .i64 a2] w fun e w' => e = .returned (.bool true) ∧ Below w.heap.size w w' := by
  obtain ⟨a, len, cap, rfl, hlen, hsc⟩ := scraps_of v w hv h
  obtain ⟨s0, s1⟩ := wf_u8 w1
  have hk := wf_i64 w2
  clear h hv w1 w2
  by_cases hb : 30 < len
  · have x1 : decide (30 < len) = true := decide_eq_true hb
    have x2 : decide ((30 : Int) < (len : Int)) = true := by simp; omega
    go_enter Try.func10, Try.ntmps10
    go_wp2_with fail
    refine (stored_any _).mono ?_
    rintro e w' ⟨rfl, hb'⟩
    go_wp2_with fail
    go_ret
    exact ⟨rfl, hb'⟩
  · have x1 : decide (30 < len) = false := by simp; omega
    have x2 : decide ((30 : Int) < (len : Int)) = false := by simp; omega
    go_enter Try.func10, Try.ntmps10
    go_wp2_with fail
    refine (new_ok _ 3000 (by omega) (by omega)).mono ?_
    rintro e w1 hnew
    obtain ⟨d, rfl, h0⟩ := Own.made _ hnew
    clear hnew
    go_wp2_with fail
    go_loopw [9] (fun n wr => ∃ j : Nat, j ≤ 4 ∧ n = .int .i64 (j : Int) ∧ Own w (fun k => k < w.heap.size) d (ordC j) wr) (fun n _ => 4 - (intOf n).toNat)
    case atStart => exact ⟨0, by omega, rfl, h0⟩
    case round =>
      obtain ⟨j, hj, rfl, hown⟩ := hrel
      by_cases hj4 : j < 4
      · have y1 : decide (j < 4) = true := decide_eq_true hj4
        have y2 : decide ((j : Int) < 4) = true := by simp; omega
        go_wp2_with fail
        refine (create_own hown j (by omega) (DiskM.live_quiet rfl) (by rw [ordC_len]; omega) (ordC_create j hj4)).mono ?_
        rintro e w2 ⟨rfl, hown2⟩
        go_wp2_with fail
        go_roundw
        case rel => exact ⟨j + 1, by omega, by go_num, hown2⟩
        case measure => simp [intOf]; omega
      · have hjj := Lib.hid (show j = 4 by omega)
        have y1 : decide (j < 4) = false := by simp; omega
        have y2 : decide ((j : Int) < 4) = false := by simp; omega
        obtain ⟨wo, rfl⟩ : ∃ wo : World, wo = wr := ⟨_, rfl⟩
        have hbo : w.heap.size ≤ wo.heap.size := hown.since.size
        obtain ⟨sure, hsure, hsl⟩ : ∃ sure : Nat, a1 % ((len : Int) + 1) = (sure : Int) ∧ sure ≤ len := by
          refine ⟨(a1 % ((len : Int) + 1)).toNat, ?_, ?_⟩
          · rw [Int.toNat_of_nonneg (Int.emod_nonneg _ (by omega))]
          · have := Int.emod_lt_of_pos a1 (show (0 : Int) < (len : Int) + 1 by omega)
            omega
        have hown3 := hown.alloc (.cells #[.string ⟨#[]⟩, .string ⟨#[]⟩, .string ⟨#[]⟩, .string ⟨#[]⟩] 71)
        have hblk := Blk.new wo (wcells (fun _ => ⟨#[]⟩)) 71
        have hbel : Below w.heap.size w (wo.alloc (.cells #[.string ⟨#[]⟩, .string ⟨#[]⟩, .string ⟨#[]⟩, .string ⟨#[]⟩] 71)) := (hown.since.below (fun k hk q => q hk) (Nat.le_refl _)).alloc hown.since.size _
        rcases Int.lt_or_le a2 0 with hy3 | hy3
        all_goals
          have hsign : (a2 < 0 ∧ (max a2 0).toNat = 0) ∨ (0 ≤ a2 ∧ ((max a2 0).toNat : Int) = a2) := by omega
          have HSI := Lib.hid hsign
          clear hsign
          go_wp2_with fail
          try rw [hsure]
          clear hsure
          go_loopw [11, 13] (fun x y wx => ∃ (i left : Nat) (M : DiskM) (T : Nat → ByteArray), i ≤ len ∧ x = .int .i64 (left : Int) ∧ y = .int .i64 (i : Int) ∧ left ≤ 9223372036854775807 ∧ Own wx (fun k => k < w.heap.size ∨ k = wo.heap.size) d M wx ∧ Blk wx wo.heap.size (wcells T) 71 ∧ Below w.heap.size w wx ∧ OrdRel a2 sure M left T i) (fun _ y _ => len - (intOf y).toNat)
          case atStart =>
            refine ⟨0, (max a2 0).toNat, ordC j, fun _ => ⟨#[]⟩, by omega, ?_, rfl, by omega, hown3, hblk, hbel, ?_⟩
            · have := HSI.out
              first | rfl | (congr 1; omega)
            · have hj := hjj.out
              subst hj
              refine ⟨⟨hown3.ok, rfl, rfl, rfl, rfl, rfl, fun n hn => ?_, by decide, by decide⟩, Or.inl ⟨by omega, rfl, fun n hn => ?_⟩, fun n hn => Nat.le_refl 0⟩
              · match n, hn with
                | 0, _ => exact ⟨[], rfl⟩
                | 1, _ => exact ⟨[], rfl⟩
                | 2, _ => exact ⟨[], rfl⟩
                | 3, _ => exact ⟨[], rfl⟩
              · match n, hn with
                | 0, _ => rfl
                | 1, _ => rfl
                | 2, _ => rfl
                | 3, _ => rfl
          case round =>
            obtain ⟨i, left, M, T, hi, rfl, rfl, hlf, ho, hblkT, hbelT, HR⟩ := hrel
            by_cases hil : i < len
            · obtain ⟨k, s, hk255, hsm, hel⟩ := hsc i hil
              obtain ⟨b', off, rfl, hlt, hc⟩ := hel.below hbelT
              have q0 : wr.cell? ⟨b', off + i * 2, none⟩ = some (.int .u8 (k : Int)) := by simpa using hc 0 _ rfl
              have q1 := hc 1 _ rfl
              clear hc
              have y4 : decide (i < len) = true := decide_eq_true hil
              by_cases hs50 : 50 < s.size
              · have y5 : decide (50 < s.size) = true := decide_eq_true hs50
                have y6 : decide ((50 : Int) < (s.size : Int)) = true := by simp; omega
                go_wp2_with fail
                refine (stored_any _).mono ?_
                rintro e w' ⟨rfl, hb'⟩
                go_wp2_with fail
                go_ret
                exact ⟨rfl, hbelT.trans (hb'.mono hbelT.size)⟩
              · have y5 : decide (50 < s.size) = false := by simp; omega
                have y6 : decide ((50 : Int) < (s.size : Int)) = false := by simp; omega
                obtain ⟨m, hm4, hmod, hmod2⟩ : ∃ m : Nat, m < 4 ∧ (k : Int) % 4 = (m : Int) ∧ (k : Int).tmod 4 = (m : Int) := ⟨k % 4, by omega, by omega, by rw [Int.tmod_eq_emod_of_nonneg (by omega)]; omega⟩
                have HM := Lib.hid hmod2
                have q6 : (m : Int) < 4 := by omega
                have hm0 : (0 : Int) ≤ (m : Int) := by omega
                have hw8 : IntKind.u8.wrap (m : Int) = (m : Int) := IntWalk.u8_in _ (by omega)
                clear hmod2
                rcases Nat.lt_trichotomy i sure with hlts | hies | hgts
                · obtain ⟨hap, hst⟩ := HR.ahead (m := m) (s := s) hlts (by omega) hm4 (by omega)
                  have HS := Lib.hid hst
                  have y7 : decide ((i : Int) = (sure : Int)) = false := by simp; omega
                  have y7' : ((i : Int) == (sure : Int)) = false := by simp; omega
                  have y8 : decide ((sure : Int) ≤ (i : Int)) = false := by simp; omega
                  have y9 : decide (sure ≤ i) = false := by simp; omega
                  clear hst
                  go_wp2_with fail
                  refine (append_own ho m (by omega) s (DiskM.live_quiet HR.1.fails) (by have := HR.1.four; have := HR.1.loose; omega) hap).mono ?_
                  rintro e w3 ⟨rfl, ho3⟩
                  have hblk3 := hblkT.kept ho3.since (fun q => q (Or.inr rfl))
                  have hbel3 : Below w.heap.size w w3 := hbelT.trans (ho3.since.below (fun k hk q => q (Or.inl hk)) hbelT.size)
                  obtain ⟨b2, off2, ha2, hlt2, hc2⟩ := hel.below hbel3
                  obtain ⟨rfl, rfl⟩ : b' = b2 ∧ off = off2 := by simpa using ha2
                  have q3 : w3.cell? ⟨b', off + i * 2, none⟩ = some (.int .u8 (k : Int)) := by simpa using hc2 0 _ rfl
                  have q4 := hblk3.cell (wcells_get T m hm4)
                  have q5 := hblk3.free m
                  have hmod2 := HM.out
                  clear hc2 hlt2
                  go_wp2_with fail
                  have hsz2 : ((T m).size + (s).size > 9223372036854775807) = False := eq_false (by have := HR.2.2 m hm4; omega)
                  have hsz3 : (9223372036854775807 < (T m).size + (s).size) = False := eq_false (by have := HR.2.2 m hm4; omega)
                  have hsz4 : (9223372036854775807 < (T m).size + min left s.size) = False := eq_false (by have := HR.2.2 m hm4; omega)
                  refine wp_region_tail 17 (by kernel_rfl) (by kernel_rfl) ?_
                  simp only [List.take_succ_cons, List.take_zero, List.drop_succ_cons, List.drop_zero]
                  repeat still_step
                  refine wpStill_nil ?_
                  go_wp2
                  go_roundw
                  case rel =>
                    have hset := hblk3.set m (.string (T m ++ s))
                    rw [wcells_set T m hm4] at hset
                    exact ⟨i + 1, left, _, _, by omega, by first | rfl | (congr 1; omega), by go_num, by omega, ho3.turn (S := fun k => k = wo.heap.size) ((kept_cell w3 wo.heap.size m _).drew) (fun k e => Or.inr e), hset.drew, (hbel3.setCell (by have := hbo; simp; omega) _).drew, HS.out⟩
                  case measure => simp [intOf]; omega
                · obtain ⟨hsy, hor, hbe⟩ := HR.sync hies
                  obtain ⟨hap, hst⟩ := behind_step (m := m) (s := s) hor hbe HR.2.2 (sure := sure) (by omega) (by omega) hm4 (by omega)
                  have y7 : decide ((i : Int) = (sure : Int)) = true := by simp; omega
                  have y7' : ((i : Int) == (sure : Int)) = true := by simp; omega
                  have y8 : decide ((sure : Int) ≤ (i : Int)) = true := by simp; omega
                  have y9 : decide (sure ≤ i) = true := by simp; omega
                  have HI := Lib.hid hies
                  clear hies
                  go_wp2_with fail
                  refine (sync_own ho (DiskM.live_quiet HR.1.fails) hsy).mono ?_
                  rintro e w4 ⟨rfl, ho4⟩
                  have hbel4 : Below w.heap.size w w4 := hbelT.trans (ho4.since.below (fun k hk q => q (Or.inl hk)) hbelT.size)
                  obtain ⟨b3, off3, ha3, hlt3, hc3⟩ := hel.below hbel4
                  obtain ⟨rfl, rfl⟩ : b' = b3 ∧ off = off3 := by simpa using ha3
                  have q7 : w4.cell? ⟨b', off + i * 2, none⟩ = some (.int .u8 (k : Int)) := by simpa using hc3 0 _ rfl
                  clear hc3 hlt3
                  go_wp2_with fail
                  refine (append_own ho4 m (by omega) s (DiskM.live_quiet hor.fails) (by have := hor.four; have := hor.loose; omega) hap).mono ?_
                  rintro e w3 ⟨rfl, ho3⟩
                  have hblk3 := hblkT.kept ho3.since (fun q => q (Or.inr rfl))
                  have hbel3 : Below w.heap.size w w3 := hbelT.trans (ho3.since.below (fun k hk q => q (Or.inl hk)) hbelT.size)
                  rcases Nat.lt_or_ge left s.size with hsl2 | hsl2
                  · have emin : min s.size left = left := by omega
                    rw [emin] at hst
                    have HS := Lib.hid hst
                    clear hst emin
                    obtain ⟨b2, off2, ha2, hlt2, hc2⟩ := hel.below hbel3
                    obtain ⟨rfl, rfl⟩ : b' = b2 ∧ off = off2 := by simpa using ha2
                    have q3 : w3.cell? ⟨b', off + i * 2, none⟩ = some (.int .u8 (k : Int)) := by simpa using hc2 0 _ rfl
                    have q4 := hblk3.cell (wcells_get T m hm4)
                    have q5 := hblk3.free m
                    have hmod2 := HM.out
                    clear hc2 hlt2
                    go_wp2_with fail
                    have hsz2 : ((T m).size + (s.extract 0 left).size > 9223372036854775807) = False := eq_false (by have := HR.2.2 m hm4; rw [ByteArray.size_extract]; omega)
                    have hsz3 : (9223372036854775807 < (T m).size + (s.extract 0 left).size) = False := eq_false (by have := HR.2.2 m hm4; rw [ByteArray.size_extract]; omega)
                    have hsz4 : (9223372036854775807 < (T m).size + min left s.size) = False := eq_false (by have := HR.2.2 m hm4; omega)
                    refine wp_region_tail 17 (by kernel_rfl) (by kernel_rfl) ?_
                    simp only [List.take_succ_cons, List.take_zero, List.drop_succ_cons, List.drop_zero]
                    repeat still_step
                    refine wpStill_nil ?_
                    go_wp2
                    go_roundw
                    case rel =>
                      have hset := hblk3.set m (.string (T m ++ s.extract 0 left))
                      rw [wcells_set T m hm4] at hset
                      exact ⟨i + 1, left - left, _, _, by omega, by first | rfl | (congr 1; omega), by go_num, by omega, ho3.turn (S := fun k => k = wo.heap.size) ((kept_cell w3 wo.heap.size m _).drew) (fun k e => Or.inr e), hset.drew, (hbel3.setCell (by have := hbo; simp; omega) _).drew, HS.out⟩
                    case measure => simp [intOf]; omega
                  · have emin : min s.size left = s.size := by omega
                    rw [emin, extract_all] at hst
                    have HS := Lib.hid hst
                    clear hst emin
                    obtain ⟨b2, off2, ha2, hlt2, hc2⟩ := hel.below hbel3
                    obtain ⟨rfl, rfl⟩ : b' = b2 ∧ off = off2 := by simpa using ha2
                    have q3 : w3.cell? ⟨b', off + i * 2, none⟩ = some (.int .u8 (k : Int)) := by simpa using hc2 0 _ rfl
                    have q4 := hblk3.cell (wcells_get T m hm4)
                    have q5 := hblk3.free m
                    have hmod2 := HM.out
                    clear hc2 hlt2
                    go_wp2_with fail
                    have hsz2 : ((T m).size + (s).size > 9223372036854775807) = False := eq_false (by have := HR.2.2 m hm4; omega)
                    have hsz3 : (9223372036854775807 < (T m).size + (s).size) = False := eq_false (by have := HR.2.2 m hm4; omega)
                    have hsz4 : (9223372036854775807 < (T m).size + min left s.size) = False := eq_false (by have := HR.2.2 m hm4; omega)
                    refine wp_region_tail 17 (by kernel_rfl) (by kernel_rfl) ?_
                    simp only [List.take_succ_cons, List.take_zero, List.drop_succ_cons, List.drop_zero]
                    repeat still_step
                    refine wpStill_nil ?_
                    go_wp2
                    go_roundw
                    case rel =>
                      have hset := hblk3.set m (.string (T m ++ s))
                      rw [wcells_set T m hm4] at hset
                      exact ⟨i + 1, left - s.size, _, _, by omega, by first | rfl | (congr 1; omega), by go_num, by omega, ho3.turn (S := fun k => k = wo.heap.size) ((kept_cell w3 wo.heap.size m _).drew) (fun k e => Or.inr e), hset.drew, (hbel3.setCell (by have := hbo; simp; omega) _).drew, HS.out⟩
                    case measure => simp [intOf]; omega
                · obtain ⟨hap, hst⟩ := HR.behind (m := m) (s := s) hgts (by omega) hm4 (by omega)
                  have y7 : decide ((i : Int) = (sure : Int)) = false := by simp; omega
                  have y7' : ((i : Int) == (sure : Int)) = false := by simp; omega
                  have y8 : decide ((sure : Int) ≤ (i : Int)) = true := by simp; omega
                  have y9 : decide (sure ≤ i) = true := by simp; omega
                  go_wp2_with fail
                  refine (append_own ho m (by omega) s (DiskM.live_quiet HR.1.fails) (by have := HR.1.four; have := HR.1.loose; omega) hap).mono ?_
                  rintro e w3 ⟨rfl, ho3⟩
                  have hblk3 := hblkT.kept ho3.since (fun q => q (Or.inr rfl))
                  have hbel3 : Below w.heap.size w w3 := hbelT.trans (ho3.since.below (fun k hk q => q (Or.inl hk)) hbelT.size)
                  rcases Nat.lt_or_ge left s.size with hsl2 | hsl2
                  · have emin : min s.size left = left := by omega
                    rw [emin] at hst
                    have HS := Lib.hid hst
                    clear hst emin
                    obtain ⟨b2, off2, ha2, hlt2, hc2⟩ := hel.below hbel3
                    obtain ⟨rfl, rfl⟩ : b' = b2 ∧ off = off2 := by simpa using ha2
                    have q3 : w3.cell? ⟨b', off + i * 2, none⟩ = some (.int .u8 (k : Int)) := by simpa using hc2 0 _ rfl
                    have q4 := hblk3.cell (wcells_get T m hm4)
                    have q5 := hblk3.free m
                    have hmod2 := HM.out
                    clear hc2 hlt2
                    go_wp2_with fail
                    have hsz2 : ((T m).size + (s.extract 0 left).size > 9223372036854775807) = False := eq_false (by have := HR.2.2 m hm4; rw [ByteArray.size_extract]; omega)
                    have hsz3 : (9223372036854775807 < (T m).size + (s.extract 0 left).size) = False := eq_false (by have := HR.2.2 m hm4; rw [ByteArray.size_extract]; omega)
                    have hsz4 : (9223372036854775807 < (T m).size + min left s.size) = False := eq_false (by have := HR.2.2 m hm4; omega)
                    refine wp_region_tail 17 (by kernel_rfl) (by kernel_rfl) ?_
                    simp only [List.take_succ_cons, List.take_zero, List.drop_succ_cons, List.drop_zero]
                    repeat still_step
                    refine wpStill_nil ?_
                    go_wp2
                    go_roundw
                    case rel =>
                      have hset := hblk3.set m (.string (T m ++ s.extract 0 left))
                      rw [wcells_set T m hm4] at hset
                      exact ⟨i + 1, left - left, _, _, by omega, by first | rfl | (congr 1; omega), by go_num, by omega, ho3.turn (S := fun k => k = wo.heap.size) ((kept_cell w3 wo.heap.size m _).drew) (fun k e => Or.inr e), hset.drew, (hbel3.setCell (by have := hbo; simp; omega) _).drew, HS.out⟩
                    case measure => simp [intOf]; omega
                  · have emin : min s.size left = s.size := by omega
                    rw [emin, extract_all] at hst
                    have HS := Lib.hid hst
                    clear hst emin
                    obtain ⟨b2, off2, ha2, hlt2, hc2⟩ := hel.below hbel3
                    obtain ⟨rfl, rfl⟩ : b' = b2 ∧ off = off2 := by simpa using ha2
                    have q3 : w3.cell? ⟨b', off + i * 2, none⟩ = some (.int .u8 (k : Int)) := by simpa using hc2 0 _ rfl
                    have q4 := hblk3.cell (wcells_get T m hm4)
                    have q5 := hblk3.free m
                    have hmod2 := HM.out
                    clear hc2 hlt2
                    go_wp2_with fail
                    have hsz2 : ((T m).size + (s).size > 9223372036854775807) = False := eq_false (by have := HR.2.2 m hm4; omega)
                    have hsz3 : (9223372036854775807 < (T m).size + (s).size) = False := eq_false (by have := HR.2.2 m hm4; omega)
                    have hsz4 : (9223372036854775807 < (T m).size + min left s.size) = False := eq_false (by have := HR.2.2 m hm4; omega)
                    refine wp_region_tail 17 (by kernel_rfl) (by kernel_rfl) ?_
                    simp only [List.take_succ_cons, List.take_zero, List.drop_succ_cons, List.drop_zero]
                    repeat still_step
                    refine wpStill_nil ?_
                    go_wp2
                    go_roundw
                    case rel =>
                      have hset := hblk3.set m (.string (T m ++ s))
                      rw [wcells_set T m hm4] at hset
                      exact ⟨i + 1, left - s.size, _, _, by omega, by first | rfl | (congr 1; omega), by go_num, by omega, ho3.turn (S := fun k => k = wo.heap.size) ((kept_cell w3 wo.heap.size m _).drew) (fun k e => Or.inr e), hset.drew, (hbel3.setCell (by have := hbo; simp; omega) _).drew, HS.out⟩
                    case measure => simp [intOf]; omega
            · have hilen := Lib.hid (show i = len by omega)
              have y4 : decide (i < len) = false := by simp; omega
              have y4' : decide ((i : Int) < (len : Int)) = false := by simp; omega
              rcases Nat.lt_or_ge sure len with hsl3 | hsl3
              · have y11 : ((sure : Int) == (len : Int)) = false := by simp; omega
                have y12 : decide ((sure : Int) = (len : Int)) = false := by simp; omega
                have hcr : Crashy a2 M T 0 := by
                  rcases HR.2.1 with ⟨q, _⟩ | ⟨_, q⟩
                  · omega
                  · exact Crashy.first HR.1 q
                have hoZ := ho
                have hblkZ := hblkT
                have hbelZ := hbelT
                go_wp2_with fail
                go_loopw [15] (fun x wy => ∃ (tt : Nat) (M5 : DiskM), tt ≤ 2 ∧ x = .int .i64 (tt : Int) ∧ Own wy (fun k => k < w.heap.size ∨ k = wo.heap.size) d M5 wy ∧ Blk wy wo.heap.size (wcells T) 71 ∧ Below w.heap.size w wy ∧ Crashy a2 M5 T tt) (fun x _ => 2 - (intOf x).toNat)
                case atStart => exact ⟨0, _, by omega, rfl, hoZ, hblkZ, hbelZ, hcr⟩
                case round =>
                  obtain ⟨tt, M5, htt, rfl, ho5, hblk5, hbel5, hcr5⟩ := hrel
                  by_cases ht2 : tt < 2
                  · have z1 : decide (tt < 2) = true := decide_eq_true ht2
                    have z2 : decide ((tt : Int) < 2) = true := by simp; omega
                    obtain ⟨n1, n2, n3, n4⟩ := hcr5.next
                    have hst5 := hcr5.starts
                    go_wp2_with fail
                    refine (crash_own ho5 a2 hk n1).mono ?_
                    rintro e w5 ⟨rfl, ho6⟩
                    go_wp2_with fail
                    refine (up_own ho6 (b := false) rfl).mono ?_
                    rintro e w' ⟨rfl, rfl⟩
                    go_wp2_with fail
                    refine (sync_own ho6 (DiskM.live_quiet rfl) n2).mono ?_
                    rintro e w6 ⟨rfl, ho7⟩
                    go_wp2_with fail
                    refine (start_own ho7 (by show 0 ≤ M5.starts ∧ M5.starts < _; omega) n3).mono ?_
                    rintro e w7 ⟨rfl, ho8⟩
                    go_wp2_with fail
                    refine (loose_own ho8 (r := 0) rfl).mono ?_
                    rintro e w8 ⟨rfl, ho9⟩
                    have hblk8 := hblk5.kept ho9.since (fun q => q (Or.inr rfl))
                    have hbel8 : Below w.heap.size w w8 := hbel5.trans (ho9.since.below (fun k hk q => q (Or.inl hk)) hbel5.size)
                    have HN := Lib.hid (And.intro n4 hst5)
                    clear n1 n2 n3 n4 hst5
                    go_wp2_with fail
                    go_loop [16] (fun x => ∃ n : Nat, n ≤ 4 ∧ x = .int .i64 (n : Int)) (fun x => 4 - (intOf x).toNat)
                    case atStart => exact ⟨0, by omega, rfl⟩
                    case round =>
                      obtain ⟨n, hn, rfl⟩ := hrel
                      by_cases hn4 : n < 4
                      · have z3 : decide (n < 4) = true := decide_eq_true hn4
                        have z4 : decide ((n : Int) < 4) = true := by simp; omega
                        have q8 := hblk8.cell (wcells_get T n hn4)
                        have q9 : (n : Int) < 4 := by omega
                        have hn0 : (0 : Int) ≤ (n : Int) := by omega
                        have hTn := HR.2.2 n hn4
                        go_wp2_with fail
                        refine (reads_own ho9 n (by omega) (T n) (by omega) rfl (hcr5.want n hn4)).mono ?_
                        rintro e w' ⟨rfl, rfl⟩
                        go_wp2_with fail
                        go_round
                        case rel => exact ⟨n + 1, by omega, by go_num⟩
                        case measure => simp [intOf]; omega
                      · have z3 : decide (n < 4) = false := by simp; omega
                        have z4 : decide ((n : Int) < 4) = false := by simp; omega
                        go_wp2_with fail
                        go_roundw
                        case rel => exact ⟨tt + 1, _, by omega, by go_num, ho9.rebase, hblk8, hbel8, HN.out.1⟩
                        case measure => simp [intOf]; omega
                  · have z1 : decide (tt < 2) = false := by simp; omega
                    have z2 : decide ((tt : Int) < 2) = false := by simp; omega
                    go_wp2_with fail
                    refine (stored_any _).mono ?_
                    rintro e w' ⟨rfl, hb'⟩
                    go_wp2_with fail
                    go_ret
                    exact ⟨rfl, hbel5.trans (hb'.mono hbel5.size)⟩
              · have hse := Lib.hid (show sure = len by omega)
                have y11 : ((sure : Int) == (len : Int)) = true := by simp; omega
                have y12 : decide ((sure : Int) = (len : Int)) = true := by simp; omega
                obtain ⟨hsy, hor, hbe⟩ := HR.sync (by omega)
                have hcr : Crashy a2 _ T 0 := Crashy.first hor hbe
                go_wp2_with fail
                refine (sync_own ho (DiskM.live_quiet HR.1.fails) hsy).mono ?_
                rintro e w4 ⟨rfl, ho4⟩
                have hoZ := ho4.rebase
                have hblkZ := hblkT.kept ho4.since (fun q => q (Or.inr rfl))
                have hbelZ : Below w.heap.size w w4 := hbelT.trans (ho4.since.below (fun k hk q => q (Or.inl hk)) hbelT.size)
                go_wp2_with fail
                go_loopw [15] (fun x wy => ∃ (tt : Nat) (M5 : DiskM), tt ≤ 2 ∧ x = .int .i64 (tt : Int) ∧ Own wy (fun k => k < w.heap.size ∨ k = wo.heap.size) d M5 wy ∧ Blk wy wo.heap.size (wcells T) 71 ∧ Below w.heap.size w wy ∧ Crashy a2 M5 T tt) (fun x _ => 2 - (intOf x).toNat)
                case atStart => exact ⟨0, _, by omega, rfl, hoZ, hblkZ, hbelZ, hcr⟩
                case round =>
                  obtain ⟨tt, M5, htt, rfl, ho5, hblk5, hbel5, hcr5⟩ := hrel
                  by_cases ht2 : tt < 2
                  · have z1 : decide (tt < 2) = true := decide_eq_true ht2
                    have z2 : decide ((tt : Int) < 2) = true := by simp; omega
                    obtain ⟨n1, n2, n3, n4⟩ := hcr5.next
                    have hst5 := hcr5.starts
                    go_wp2_with fail
                    refine (crash_own ho5 a2 hk n1).mono ?_
                    rintro e w5 ⟨rfl, ho6⟩
                    go_wp2_with fail
                    refine (up_own ho6 (b := false) rfl).mono ?_
                    rintro e w' ⟨rfl, rfl⟩
                    go_wp2_with fail
                    refine (sync_own ho6 (DiskM.live_quiet rfl) n2).mono ?_
                    rintro e w6 ⟨rfl, ho7⟩
                    go_wp2_with fail
                    refine (start_own ho7 (by show 0 ≤ M5.starts ∧ M5.starts < _; omega) n3).mono ?_
                    rintro e w7 ⟨rfl, ho8⟩
                    go_wp2_with fail
                    refine (loose_own ho8 (r := 0) rfl).mono ?_
                    rintro e w8 ⟨rfl, ho9⟩
                    have hblk8 := hblk5.kept ho9.since (fun q => q (Or.inr rfl))
                    have hbel8 : Below w.heap.size w w8 := hbel5.trans (ho9.since.below (fun k hk q => q (Or.inl hk)) hbel5.size)
                    have HN := Lib.hid (And.intro n4 hst5)
                    clear n1 n2 n3 n4 hst5
                    go_wp2_with fail
                    go_loop [16] (fun x => ∃ n : Nat, n ≤ 4 ∧ x = .int .i64 (n : Int)) (fun x => 4 - (intOf x).toNat)
                    case atStart => exact ⟨0, by omega, rfl⟩
                    case round =>
                      obtain ⟨n, hn, rfl⟩ := hrel
                      by_cases hn4 : n < 4
                      · have z3 : decide (n < 4) = true := decide_eq_true hn4
                        have z4 : decide ((n : Int) < 4) = true := by simp; omega
                        have q8 := hblk8.cell (wcells_get T n hn4)
                        have q9 : (n : Int) < 4 := by omega
                        have hn0 : (0 : Int) ≤ (n : Int) := by omega
                        have hTn := HR.2.2 n hn4
                        go_wp2_with fail
                        refine (reads_own ho9 n (by omega) (T n) (by omega) rfl (hcr5.want n hn4)).mono ?_
                        rintro e w' ⟨rfl, rfl⟩
                        go_wp2_with fail
                        go_round
                        case rel => exact ⟨n + 1, by omega, by go_num⟩
                        case measure => simp [intOf]; omega
                      · have z3 : decide (n < 4) = false := by simp; omega
                        have z4 : decide ((n : Int) < 4) = false := by simp; omega
                        go_wp2_with fail
                        go_roundw
                        case rel => exact ⟨tt + 1, _, by omega, by go_num, ho9.rebase, hblk8, hbel8, HN.out.1⟩
                        case measure => simp [intOf]; omega
                  · have z1 : decide (tt < 2) = false := by simp; omega
                    have z2 : decide ((tt : Int) < 2) = false := by simp; omega
                    go_wp2_with fail
                    refine (stored_any _).mono ?_
                    rintro e w' ⟨rfl, hb'⟩
                    go_wp2_with fail
                    go_ret
                    exact ⟨rfl, hbel5.trans (hb'.mono hbel5.size)⟩
end Go.Proofs.Ytahiimcdmojngaa
