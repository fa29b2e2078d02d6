/- Contracts of package disk: Append. -/
import Derived.Test.YtahiimcdmojngaaDisk7
namespace Go.Proofs.Ytahiimcdmojngaa
open Go.RowKit

def DiskM.appended (M : DiskM) (n : Int) (s : List UInt8) : DiskM := { M with files := AM.set M.files n (((AM.get M.files n).getD []) ++ s), loose := M.loose ++ [(n, s.length)] }
def DiskM.append (M : DiskM) (n : Int) (s : List UInt8) : Int × DiskM := if M.has n ≠ 0 then (M.has n, M) else if M.cap - M.total < s.length then (60, M) else if M.sinks = true then (61, (M.appended n s).sunk) else (0, (M.appended n s).tick)

theorem DiskM.Ok.appended {M : DiskM} (h : M.Ok) {n : Int} {b s : List UInt8} (hg : AM.get M.files n = some b) (hr : ((M.total + s.length : Nat) : Int) ≤ M.cap) (hc : M.files.length + M.loose.length < 300000000) : (M.appended n s).Ok := by
  have hn := h.keys (n, b) ((AM.get_some h.rise).1 hg)
  have e : (AM.get M.files n).getD [] = b := by rw [hg]; rfl
  unfold DiskM.appended
  rw [e]
  refine ⟨AM.rise_set h.rise _ _, fun p hp => ?_, h.cap0, h.cap1, ?_, fun k => ?_, fun p hp => ?_, h.left1, h.left2, ?_, h.keepk⟩
  · rcases AM.mem_set.1 hp with rfl | ⟨hp, _⟩
    · exact hn
    · exact h.keys p hp
  · unfold DiskM.total at hr ⊢
    rw [AM.sum_del List.length h.rise hg] at hr
    show ((AM.sum List.length (AM.set M.files n (b ++ s)) : Nat) : Int) ≤ M.cap
    rw [AM.sum_set, List.length_append]
    omega
  · have := h.lo k
    show DiskM.looseOf (M.loose ++ [(n, s.length)]) k ≤ ((AM.get (AM.set M.files n (b ++ s)) k).getD []).length
    rw [looseOf_append]
    by_cases e : k = n
    · subst e
      rw [hg] at this
      rw [AM.get_set_same h.rise]
      simp [DiskM.looseOf] at this ⊢
      omega
    · rw [AM.get_set_other h.rise _ e]
      have e2 : ¬ n = k := fun q => e q.symm
      simp only [DiskM.looseOf, if_neg e2]
      exact this
  · rcases List.mem_append.1 hp with hp | hp
    · exact h.loks p hp
    · simp at hp; subst hp; exact hn
  · have := AM.length_set_le M.files n (b ++ s)
    show (AM.set M.files n (b ++ s)).length + (M.loose ++ [(n, s.length)]).length ≤ _
    rw [List.length_append]
    simp only [List.length_cons, List.length_nil]
    omega

section
variable {w w' : World} {d mb : Nat} {fp : Nat → Prop} {M : DiskM} {lv : Value} {fs : List (Int × Value)}
theorem Row.blk {e : TypeId} {size k : Nat} {v : Value} {xs : List Value} (h : Row w e size v xs) (hk : v.ownBlock = some k) : ∃ c, Blk w k c e := by
  rcases h with ⟨rfl, _⟩ | ⟨g, n, cap, rest, rfl, _, hb, _⟩
  · simp [Value.ownBlock] at hk
  · simp [Value.ownBlock] at hk
    subst hk
    exact ⟨_, hb⟩
/-- A file's slice has become another one, in its own block or a new one. -/
theorem DiskRaw.refile (h : DiskRaw w d fp M mb lv fs) (hF : AM.Rise M.files) {a : Int} {v v' : Value} {b b' : List UInt8} {n : Nat} (hv : AM.get fs a = some v) (hb : AM.get M.files a = some b) (hm : MapI Try.prog 3 w' mb n (AM.set fs a v'))
    (hk : Kept (fun x => x = mb ∨ v.ownBlock = some x) w w') (hrow : Row w' 5 1 v' (bcells b')) (hown : ∀ k, v'.ownBlock = some k → v.ownBlock = some k ∨ w.heap.size ≤ k) :
    DiskRaw w' d (fun k => fp k ∨ w.heap.size ≤ k) { M with files := AM.set M.files a b' } mb lv (AM.set fs a v') := by
  have hr := h.map.rise Try.underlying3
  have hrv := h.rows a v b hv hb
  have hne : ∀ n' v' k, AM.get fs n' = some v' → v'.ownBlock = some k → k ≠ mb := by
    intro n' v' k h1 h2
    have hs := h.keys n'
    rw [h1] at hs
    obtain ⟨b', hb'⟩ := Option.isSome_iff_exists.1 hs.symm
    exact h.map.ne_row (h.rows n' v' b' h1 hb') h2
  refine ⟨h.head.kept hk ?_, hm.tight, fun n' => ?_, fun n' v1 b1 h1 h2 => ?_, fun n1 n2 v1 v2 k h1 h2 h3 h4 => ?_, h.loose.kept hk ?_, Or.inl h.fpd, Or.inl h.fpm, fun k hk' => Or.inl (h.fpl k hk'), fun n' v1 k h1 h2 => ?_⟩
  · rintro (e | e)
    · exact h.map.ne_blk h.head e.symm
    · exact h.row_ne hv e rfl
  · show _ = (AM.get (AM.set M.files a b') n').isSome
    by_cases e : n' = a
    · subst e; rw [AM.get_set_same hr, AM.get_set_same hF]; rfl
    · rw [AM.get_set_other hr _ e, AM.get_set_other hF _ e]; exact h.keys n'
  · replace h2 : AM.get (AM.set M.files a b') n' = some b1 := h2
    by_cases e : n' = a
    · subst e
      rw [AM.get_set_same hr] at h1
      rw [AM.get_set_same hF] at h2
      cases h1; cases h2
      exact hrow
    · rw [AM.get_set_other hr _ e] at h1
      rw [AM.get_set_other hF _ e] at h2
      refine (h.rows n' v1 b1 h1 h2).kept hk (fun k hk' => ?_)
      rintro (q | q)
      · exact hne n' v1 k h1 hk' q
      · exact e (h.apart n' a v1 v k h1 hv hk' q)
  · by_cases e1 : n1 = a
    · by_cases e2 : n2 = a
      · rw [e1, e2]
      · subst e1
        rw [AM.get_set_same hr] at h1
        cases h1
        rw [AM.get_set_other hr _ e2] at h2
        rcases hown k h3 with q | q
        · exact h.apart n1 n2 v v2 k hv h2 q h4
        · have hlt : k < w.heap.size := by
            have hs := h.keys n2
            rw [h2] at hs
            obtain ⟨b2, hb2⟩ := Option.isSome_iff_exists.1 hs.symm
            exact (h.rows n2 v2 b2 h2 hb2).lt h4
          omega
    · by_cases e2 : n2 = a
      · subst e2
        rw [AM.get_set_same hr] at h2
        cases h2
        rw [AM.get_set_other hr _ e1] at h1
        rcases hown k h4 with q | q
        · exact h.apart n1 n2 v1 v k h1 hv h3 q
        · have hlt : k < w.heap.size := by
            have hs := h.keys n1
            rw [h1] at hs
            obtain ⟨b2, hb2⟩ := Option.isSome_iff_exists.1 hs.symm
            exact (h.rows n1 v1 b2 h1 hb2).lt h3
          omega
      · rw [AM.get_set_other hr _ e1] at h1
        rw [AM.get_set_other hr _ e2] at h2
        exact h.apart n1 n2 v1 v2 k h1 h2 h3 h4
  · intro k hk'
    rintro (q | q)
    · exact h.map.ne_row h.loose hk' q
    · obtain ⟨c, hc⟩ := hrv.blk q
      exact h.loose.ne_blk hk' hc (by decide) rfl
  · by_cases e : n' = a
    · subst e
      rw [AM.get_set_same hr] at h1
      cases h1
      exact (hown k h2).imp (fun q => h.fpf n' v k hv q) id
    · rw [AM.get_set_other hr _ e] at h1
      exact Or.inl (h.fpf n' v1 k h1 h2)
/-- The list of loose pieces has become another one. -/
theorem DiskRaw.reloose (h : DiskRaw w d fp M mb lv fs) {lv' : Value} {l' : List (Int × Nat)} (hk : Kept (fun x => lv.ownBlock = some x) w w') (hrow : Row w' 126 2 lv' (pcells l')) (hown : ∀ k, lv'.ownBlock = some k → lv.ownBlock = some k ∨ w.heap.size ≤ k) :
    DiskRaw (w'.setCell ⟨d, 1, none⟩ lv') d (fun k => fp k ∨ w.heap.size ≤ k) { M with loose := l' } mb lv' fs := by
  have hhead : Blk w' d (M.cells mb lv) 124 := h.head.kept hk (fun e => h.loose.ne_blk e h.head (by decide) rfl)
  have hmap := h.map.kept hk (fun e => h.map.ne_row h.loose e rfl)
  have hrows : ∀ n v b, AM.get fs n = some v → AM.get M.files n = some b → Row w' 5 1 v (bcells b) := fun n v b h1 h2 => (h.rows n v b h1 h2).kept hk (fun k hk' e => by
    obtain ⟨c, hc⟩ := h.loose.blk e
    exact (h.rows n v b h1 h2).ne_blk hk' hc (by decide) rfl)
  refine ⟨hhead.set 1 _, hmap.other (fun e => hmap.ne_blk hhead e.symm) _, h.keys, fun n x b h1 h2 => (hrows n x b h1 h2).other (fun e => (hrows n x b h1 h2).ne_blk e hhead (by decide) rfl) _, h.apart, ?_, Or.inl h.fpd, Or.inl h.fpm, fun k hk' => (hown k hk').imp (h.fpl k) id, fun n v k h1 h2 => Or.inl (h.fpf n v k h1 h2)⟩
  exact hrow.other (fun e => hrow.ne_blk e hhead (by decide) rfl) _
end

theorem info_u8 : (Try.prog.info? 5).map (fun i => (i.zero, i.size, i.bytes)) = some (some (.int .u8 0), 1, 1) := by kernel_rfl
theorem info_piece : (Try.prog.info? 126).map (fun i => (i.zero, i.size, i.bytes)) = some (some (.agg #[.int .i64 0, .int .i64 0]), 2, 16) := by kernel_rfl

theorem strCells_bcells (s : ByteArray) : Lib.strCells s = bcells s.data.toList := rfl
section
variable {w w' : World} {d mb : Nat} {fp : Nat → Prop} {M : DiskM} {lv : Value} {fs : List (Int × Value)}
theorem DiskAt.appendBytes (h : DiskAt w d fp M mb lv fs) {n : Int} {v : Value} {b : List UInt8} (hv : AM.get fs n = some v) (hb : AM.get M.files n = some b) (s : ByteArray) (hs : s.size ≤ 70000000000000) :
    ∃ v' w1 w2, (Builtin.append_ #[80, 9] 80 #[v, .string s]).run Try.prog w.drew = .ok v' w1 ∧ (Instr.mapUpdate 121 (.map (some mb)) (.int .i64 n) v').run Try.prog w1 = .ok () w2 ∧
      DiskRaw w2 d (fun k => fp k ∨ w.heap.size ≤ k) { M with files := AM.set M.files n (b ++ s.data.toList) } mb lv (AM.set fs n v') ∧ Kept fp w w2 ∧ w1.cell? ⟨d, 0, none⟩ = some (.map (some mb)) := by
  obtain ⟨i, hi, hz, hsz, hby⟩ := info_parts info_u8
  have hrow := h.rows n v b hv hb
  have hbl := DiskM.len_le_total h.ok hb
  have hroom := h.ok.room
  have hc1 := h.ok.cap1
  have hn := h.ok.keys (n, b) ((AM.get_some h.ok.rise).1 hb)
  have hle := h.toDiskRaw.len_eq h.ok.rise
  have hcnt := h.ok.count
  have hml : maxLen = 9223372036854775807 := rfl
  obtain ⟨v', w1, hr1, hrow1, hk1, ho1⟩ := hrow.drew.append_str (P := Try.prog) (t := 80) (u := 9) Try.underlying80 Try.underlying9 hi hz hsz hby s (by rw [bcells_len]; omega) 80
  rw [strCells_bcells] at hrow1
  have hrow1' : Row w1 5 1 v' (bcells (b ++ s.data.toList)) := by
    have e : bcells (b ++ s.data.toList) = bcells b ++ bcells s.data.toList := by simp [bcells]
    rw [e]; exact hrow1
  have hk1' : Kept (fun x => v.ownBlock = some x) w w1 := ((Kept.refl _ _).drew).trans hk1
  have hm1 := h.map.kept hk1' (fun e => h.map.ne_row hrow e rfl)
  obtain ⟨w2, hst, hm2, hk2, hs2⟩ := hm1.store (t := 121) (e := 80) Try.underlying3 Try.underlying121 (by omega) (a := n) (by omega) v'
  have hk02 : Kept (fun x => x = mb ∨ v.ownBlock = some x) w w2 := (hk1'.mono (fun _ _ => Or.inr)).trans (hk2.mono (fun _ _ => Or.inl))
  have hmb := h.map.lt
  have hrow2 : Row w2 5 1 v' (bcells (b ++ s.data.toList)) := hrow1'.kept hk2 (fun k hk' e => hm1.ne_row hrow1' hk' e)
  refine ⟨v', w1, w2, hr1, hst, h.toDiskRaw.refile h.ok.rise hv hb hm2 hk02 hrow2 (fun k hk' => ho1 k hk'), hk02.mono ?_, (h.head.kept hk1' (fun e => h.row_ne hv e rfl)).cell (i := 0) rfl⟩
  rintro k _ (e | e)
  · rw [e]; exact h.fpm
  · exact h.fpf n v k hv e
theorem pcells_snoc (l : List (Int × Nat)) (p : Int × Nat) : pcells (l ++ [p]) = pcells l ++ [.int .i64 p.1, .int .i64 (p.2 : Int)] := by simp [pcells]
theorem DiskRaw.addPiece (h : DiskRaw w d fp M mb lv fs) (n : Int) (len : Nat) (hc : M.loose.length < 400000000) :
    ∃ lv' w1, (Builtin.append_ #[122, 122] 122 #[lv, .slice (some ⟨w.heap.size, 0, none⟩) 1 1]).run Try.prog (w.alloc (.cells #[.int .i64 n, .int .i64 (len : Int)] 126)) = .ok lv' w1 ∧
      DiskRaw (w1.setCell ⟨d, 1, none⟩ lv') d (fun k => fp k ∨ w.heap.size ≤ k) { M with loose := M.loose ++ [(n, len)] } mb lv' fs ∧ Kept fp w w1 ∧ w1.cell? ⟨d, 1, none⟩ = some lv ∧ w1.frozen? ⟨d, 1, none⟩ = false := by
  obtain ⟨i, hi, hz, hsz, hby⟩ := info_parts info_piece
  have hb : Blk (w.alloc (.cells #[.int .i64 n, .int .i64 (len : Int)] 126)) w.heap.size [.int .i64 n, .int .i64 (len : Int)] 126 := Blk.new w [.int .i64 n, .int .i64 (len : Int)] 126
  obtain ⟨lv', w1, hr1, hrow1, hk1, ho1⟩ := (h.loose.alloc (.cells #[.int .i64 n, .int .i64 (len : Int)] 126)).append_cells (P := Try.prog) (t := 122) Try.underlying122 hi hz hsz rfl (by omega) (by omega) ⟨w.heap.size, 0, none⟩ 1 1 [.int .i64 n, .int .i64 (len : Int)] rfl (fun j u hu => by rw [addr0_add]; exact hb.cell hu) (fun u hu => by simp at hu; rcases hu with rfl | rfl <;> rfl) (by omega) (by rw [pcells_len]; simp; omega) 122
  rw [← pcells_snoc M.loose (n, len)] at hrow1
  have hk2 : Kept (fun x => lv.ownBlock = some x) w w1 := ((Kept.refl _ _).alloc _).trans hk1
  have hhead := h.head.kept hk2 (fun e => h.loose.ne_blk e h.head (by decide) rfl)
  refine ⟨lv', w1, hr1, h.reloose hk2 hrow1 (fun k hk' => (ho1 k hk').imp id (fun q => ?_)), hk2.mono (fun k _ e => h.fpl k e), hhead.cell (i := 1) rfl, hhead.free 1⟩
  have : (w.alloc (.cells #[.int .i64 n, .int .i64 (len : Int)] 126)).heap.size = w.heap.size + 1 := by show (w.heap.push _).size = _; rw [Array.size_push]
  omega
end
end Go.Proofs.Ytahiimcdmojngaa
