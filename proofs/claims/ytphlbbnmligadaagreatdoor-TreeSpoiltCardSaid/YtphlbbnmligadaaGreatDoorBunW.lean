/- Threads of statements: the program's word. -/
import Derived.Test.YtphlbbnmligadaaGreatDoorStP
import Derived.Test.YtphlbbnmligadaaGreatDoorBunN
import Derived.Deep.RegionHeld3
import Derived.Deep.CutRange
import Derived.Deep.CutBlock
import Derived.BigQuiet
import Derived.Deep.QuietTactic
namespace Go.Proofs.YtphlbbnmligadaaGreatDoor
open Go.RowKit

theorem pstmts_any (vars dom : Int) : ∀ (deep : Nat), deep ≤ 1000 → PStC vars dom deep
  | 0, h => pstmts_step vars dom 0 h fun d e => by omega
  | d + 1, h => pstmts_step vars dom (d + 1) h fun d' e => by
    obtain rfl : d' = d := by omega
    exact pstmts_any vars dom d' (by omega)
theorem refstmts_any (vars dom : Int) : ∀ (deep : Nat), deep ≤ 1000 → StmtsC vars dom deep
  | 0, h => refstmts_step vars dom 0 h fun d e => by omega
  | d + 1, h => refstmts_step vars dom (d + 1) h fun d' e => by
    obtain rfl : d' = d := by omega
    exact refstmts_any vars dom d' (by omega)

theorem sumT_step {vars dom : Int} {t : List (List St)} {k n : Nat} (hlt : k < t.length) (hI : okT vars dom (t.take k) = true ∧ n = cntT (t.take k)) :
    (sumB vars dom 20 t[k] n = false → sumT vars dom t = false) ∧ (sumB vars dom 20 t[k] n = true → n + cntL t[k] ≤ 200 ∧ okT vars dom (t.take (k + 1)) = true ∧ n + cntL t[k] = cntT (t.take (k + 1))) := by
  refine ⟨fun h => ?_, fun h => ?_⟩
  · rcases sumB_false' h with h | h
    · exact okT_bad hlt h
    · exact sumT_many hlt (by rw [← hI.2]; exact h)
  · obtain ⟨h1, h2⟩ := sumB_true h
    exact ⟨h2, okT_step hlt hI.1 h1, by rw [cntT_take t k hlt, hI.2]⟩

set_option maxHeartbeats 1000000 in
theorem todd_any (vars dom : Int) (l : List St) (a : Option Addr) (cap many cb mb pb : Nat) (w : World) (hm : many ≤ 200) (hin : StRow w (InB w cb) a l.length cap l) (hck : Ck w cb mb vars dom many) (hp : w.cell? ⟨pb, 0, none⟩ = some (.pointer (some ⟨cb, 0, none⟩))) :
    Calls Tryz.prog 48 #[.slice a l.length cap, .pointer (some ⟨pb, 0, none⟩)] w fun e w' => e = .returned (.bool (!sumB vars dom 20 l many)) ∧ w.grownBy w' (some cb) ∧ (sumB vars dom 20 l many = true → Ck w' cb mb vars dom ((many + cntL l : Nat) : Int)) := by
  have h := hid (pstmts_any vars dom 20 (by omega) 20 l a cap many cb mb w rfl hm hin hck)
  clear hin hck
  unfold PStPost at h
  generalize sumB vars dom 20 l many = b at h ⊢
  go_enter Tryz.func48, Tryz.ntmps48
  go_wp2_with (first
    | (go_at_call 49; refine h.out.mono ?_; rintro e w1 ⟨rfl, hg, hc⟩)
    | fail)
  go_ret
  exact ⟨rfl, hg, hc⟩

def IdxX (w : World) (cb : Nat) (b : Bool) (e : Ending) (w' : World) : Prop := ∃ r : Int, e = .returned (.int .i64 r) ∧ decide (0 ≤ r) = b ∧ w.grownBy w' (some cb)

set_option maxHeartbeats 4000000 in
theorem tindex_any (vars dom : Int) (a : Option Addr) (cap : Nat) (t : List (List St)) (cb mb pb : Nat) (w : World) (hin : TsIn w (InB w cb) a t.length cap t) (hck : Ck w cb mb vars dom 0) (hpb : pb < w.heap.size) (hne : pb ≠ cb) (hp : w.cell? ⟨pb, 0, none⟩ = some (.pointer (some ⟨cb, 0, none⟩))) :
    Calls Tryz.prog 88 #[.slice a t.length cap, .func (.func 48) #[] #[.pointer (some ⟨pb, 0, none⟩)]] w (IdxX w cb (!sumT vars dom t)) := by
  have hcap := hin.le
  have hmx := hin.mx
  unfold maxLen at hmx
  have Hin := hid hin
  have hck0 : Hid (Ck w cb mb vars dom ((0 : Nat) : Int)) := hck
  clear hin hck
  go_enter Tryz.func88, Tryz.ntmps88
  go_wp2_with fail
  go_loopw [8] (fun i wr => ∃ k n : Nat, k ≤ t.length ∧ i = .int .i64 k ∧ n ≤ 200 ∧ Hid (okT vars dom (t.take k) = true ∧ n = cntT (t.take k)) ∧ Hid (Ck wr cb mb vars dom n) ∧ Kx cb w wr) (fun i _ => t.length - (intOf i).toNat)
  case atStart => exact ⟨0, 0, Nat.zero_le _, rfl, by omega, ⟨rfl, rfl⟩, hck0, Kx.refl _ _⟩
  case round =>
    obtain ⟨k, n, hk, rfl, hn, hI, hC, hK⟩ := hrel
    by_cases hlt : k < t.length
    · obtain ⟨bb, off, ar, kr, rfl, ⟨hbl, hbne⟩, e0, hrow⟩ := Hin.out.at_ k hlt
      have k0 : (0 : Int) ≤ k := by omega
      have k1 : (k : Int) < t.length := by omega
      have g0 := hK.1.size
      have g3 : bb < wr.heap.size := by omega
      have hcall := hid (todd_any vars dom t[k] ar kr n cb mb pb wr hn (hK.strow hrow) hC.out ((hK.2 _ _ hpb hne).trans hp))
      have hst := sumT_step hlt hI.out
      have hst1 := hid hst.1
      have hst2 := hid hst.2
      clear hst hrow hI hC
      generalize sumB vars dom 20 t[k] n = b at *
      generalize cntL t[k] = m at *
      cases b
      · have hf := hid (hst1.out rfl)
        go_wp2_with (first
          | (go_at_call 48
             with_reducible refine hcall.out.mono ?_
             rintro e w1 ⟨rfl, hg3, hc3⟩)
          | fail)
        go_ret
        exact ⟨k, rfl, by rw [hf.out]; simp, (hK.trans hg3).1⟩
      · obtain ⟨hs1, hs2⟩ := hst2.out rfl
        have Hs2 := hid hs2
        clear hs2 hst1 hst2
        go_wp2_with (first
          | (go_at_call 48
             with_reducible refine hcall.out.mono ?_
             rintro e w1 ⟨rfl, hg3, hc3⟩
             have Hc3 := hid (hc3 rfl)
             clear hc3)
          | fail)
        go_roundw
        case rel => exact ⟨k + 1, n + m, by omega, by simp, hs1, Hs2, Hc3, hK.trans hg3⟩
        case measure => simp [intOf]; omega
    · obtain rfl : k = t.length := by omega
      rw [List.take_length] at hI
      have hf : Hid (sumT vars dom t = true) := by
        show _ = _
        unfold sumT
        rw [hI.out.1, ← hI.out.2]
        simpa using hn
      clear hI
      go_wp2_with fail
      go_ret
      exact ⟨-1, rfl, by rw [hf.out]; rfl, hK.1⟩
theorem tcontains_any (vars dom : Int) (a : Option Addr) (cap : Nat) (t : List (List St)) (cb mb pb : Nat) (w : World) (hin : TsIn w (InB w cb) a t.length cap t) (hck : Ck w cb mb vars dom 0) (hpb : pb < w.heap.size) (hne : pb ≠ cb) (hp : w.cell? ⟨pb, 0, none⟩ = some (.pointer (some ⟨cb, 0, none⟩))) :
    Calls Tryz.prog 47 #[.slice a t.length cap, .func (.func 48) #[] #[.pointer (some ⟨pb, 0, none⟩)]] w fun e w' => e = .returned (.bool (!sumT vars dom t)) ∧ w.grownBy w' (some cb) := by
  have hcall := hid (tindex_any vars dom a cap t cb mb pb w hin hck hpb hne hp)
  clear hin hck
  generalize (!sumT vars dom t) = y at *
  go_enter Tryz.func47, Tryz.ntmps47
  go_wp2_with (first
    | (go_at_call 88
       with_reducible refine hcall.out.mono ?_
       rintro e w1 ⟨r, rfl, hr, hb3⟩)
    | fail)
  go_ret
  exact ⟨rfl, hb3⟩
end Go.Proofs.YtphlbbnmligadaaGreatDoor
namespace Go.Proofs.YtphlbbnmligadaaGreatDoor
open Go.RowKit
theorem bytes_eq (s : ByteArray) : s = ⟨s.data.toList.toArray⟩ := by cases s; simp

theorem keyB_iff (s : ByteArray) : keyB s = true ↔ ∃ j, j < 12 ∧ keyZ.getD j ByteArray.empty = s := by
  unfold keyB
  rw [Lib.containsS_iff, List.mem_iff_getElem]
  constructor
  · rintro ⟨j, hj, e⟩
    exact ⟨j, hj, (List.getElem_eq_getD (h := hj) _).symm.trans e⟩
  · rintro ⟨j, hj, e⟩
    exact ⟨j, hj, (List.getElem_eq_getD (h := hj) _).trans e⟩

theorem str_ne {a b : ByteArray} (h : a ≠ b) : (a.toList == b.toList) = false := by
  rw [Lib.toList_data, Lib.toList_data]
  have : a.data.toList ≠ b.data.toList := fun e => h (by rw [bytes_eq a, bytes_eq b, e])
  simpa using this

set_option maxRecDepth 100000 in
set_option maxHeartbeats 4000000 in
theorem key_ref (s : ByteArray) (w : World) : Calls Tryz.prog 105 #[.string s] w fun e w' => e = .returned (.bool (keyB s)) ∧ Below w.heap.size w w' := by
  obtain ⟨zk, hzk⟩ : ∃ zk : Nat → ByteArray, zk = fun j => keyZ.getD j ByteArray.empty := ⟨_, rfl⟩
  have hc : ∀ j : Nat, j < 12 → (w.alloc (.cells (keyZ.map Value.string).toArray 9)).cell? ⟨w.heap.size, j, none⟩ = some (.string (zk j)) := fun j hj => by
    have := row_cell w keyZ 9 j hj
    rw [Nat.zero_add] at this
    rw [this, hzk]
  have hkb : keyB s = true ↔ ∃ j, j < 12 ∧ zk j = s := by rw [keyB_iff, hzk]
  have hB : Below w.heap.size w (w.alloc (.cells (keyZ.map Value.string).toArray 9)) := (Below.refl _ w).alloc (Nat.le_refl _) _
  clear hzk
  simp only [keyZ, List.map_cons, List.map_nil] at hc hB
  go_enter Tryz.func105, Tryz.ntmps105
  go_wp2_with fail
  generalize World.alloc w _ = W0 at hc hB ⊢
  go_loopw [4] (fun i wr => ∃ k : Nat, k ≤ 12 ∧ i = .int .i64 k ∧ Hid (∀ j, j < k → zk j ≠ s) ∧ W0 = wr) (fun i _ => 12 - (intOf i).toNat)
  case atStart => exact ⟨0, Nat.zero_le _, rfl, fun j h => (by omega), rfl⟩
  case round =>
    obtain ⟨k, hk, rfl, hp, hw⟩ := hrel
    subst hw
    by_cases hlt : k < 12
    · have k0 : (0 : Int) ≤ k := by omega
      have k1 : (k : Int) < 12 := by omega
      have hck := hc k hlt
      have Hc := hid hc
      clear hc
      by_cases he : zk k = s
      · have hfin : Hid (keyB s = true) := hkb.2 ⟨k, hlt, he⟩
        rw [he] at hck
        have heq : (s.toList == s.toList) = true := by simp
        clear hkb hp he
        go_wp2_with fail
        go_ret
        exact ⟨ret_bool (by rw [hfin.out]), hB⟩
      · have hp2 : Hid (∀ j, j < k + 1 → zk j ≠ s) := by
          intro j hj
          by_cases hjk : j = k
          · subst hjk; exact he
          · exact hp.out j (by omega)
        have heq := str_ne he
        generalize zk k = z at hck heq
        clear hkb hp he
        go_wp2_with fail
        go_roundw
        case rel => exact ⟨k + 1, by omega, by simp, hp2, by trivial⟩
        case measure => simp [intOf]; omega
    · obtain rfl : k = 12 := by omega
      have hfin : Hid (keyB s = false) := by
        cases h : keyB s with
        | false => rfl
        | true =>
          obtain ⟨j, hj, e⟩ := hkb.1 h
          exact absurd e (hp.out j hj)
      clear hkb hp hc
      go_wp2_with fail
      go_ret
      exact ⟨ret_bool (by rw [hfin.out]), hB⟩

theorem size_two {s : ByteArray} (h : s.size = 2) : ∃ a b, s = ⟨#[a, b]⟩ := by
  have := data_len s
  rw [h] at this
  rcases hl : s.data.toList with _ | ⟨a, _ | ⟨b, _ | ⟨c, r⟩⟩⟩
  · rw [hl] at this; simp at this
  · rw [hl] at this; simp at this
  · exact ⟨a, b, by rw [bytes_eq s, hl]⟩
  · rw [hl] at this; simp at this

theorem regI_not {s : ByteArray} (h : s.size ≠ 2) : regI s = -1 := by
  have key : ∀ z : ByteArray, z.size = 2 → ¬ z = s := fun z hz e => h (by rw [← e]; exact hz)
  unfold regI Lib.idxOfS regZ
  simp only [Lib.idxFromS]
  rw [if_neg (key _ rfl), if_neg (key _ rfl), if_neg (key _ rfl), if_neg (key _ rfl)]
theorem regI_two (a b : UInt8) : regI ⟨#[a, b]⟩ = if a = 114 ∧ 48 ≤ b.toNat ∧ b.toNat ≤ 51 then (b.toNat : Int) - 48 else -1 := by
  have key : ∀ x y : UInt8, ((⟨#[x, y]⟩ : ByteArray) = ⟨#[a, b]⟩) ↔ (a = x ∧ b = y) := fun x y => by
    constructor
    · intro e
      have := congrArg (fun z : ByteArray => z.data.toList) e
      simp at this
      exact ⟨this.1.symm, this.2.symm⟩
    · rintro ⟨rfl, rfl⟩; rfl
  unfold regI Lib.idxOfS regZ
  simp only [Lib.idxFromS, key]
  by_cases ha : a = 114
  · by_cases h0 : b = 48
    · subst ha h0; rfl
    · by_cases h1 : b = 49
      · subst ha h1; rfl
      · by_cases h2 : b = 50
        · subst ha h2; rfl
        · by_cases h3 : b = 51
          · subst ha h3; rfl
          · have hb : ¬ (48 ≤ b.toNat ∧ b.toNat ≤ 51) := by
              intro h
              have : b.toNat = 48 ∨ b.toNat = 49 ∨ b.toNat = 50 ∨ b.toNat = 51 := by omega
              rcases this with e | e | e | e
              · exact h0 (UInt8.toNat_inj.1 e)
              · exact h1 (UInt8.toNat_inj.1 e)
              · exact h2 (UInt8.toNat_inj.1 e)
              · exact h3 (UInt8.toNat_inj.1 e)
            rw [if_neg (fun e => h0 e.2), if_neg (fun e => h1 e.2), if_neg (fun e => h2 e.2), if_neg (fun e => h3 e.2), if_neg (fun e => hb e.2)]
  · rw [if_neg (fun e => ha e.1), if_neg (fun e => ha e.1), if_neg (fun e => ha e.1), if_neg (fun e => ha e.1), if_neg (fun e => ha e.1)]

theorem regI_at {s : ByteArray} (h2 : s.size = 2) (n0 : 0 < s.size) (n1 : 1 < s.size) : regI s = if (s[0].toNat : Int) = 114 ∧ (48 : Int) ≤ s[1].toNat ∧ (s[1].toNat : Int) ≤ 51 then (s[1].toNat : Int) - 48 else -1 := by
  obtain ⟨a, b, rfl⟩ := size_two h2
  rw [regI_two]
  show _ = if (a.toNat : Int) = 114 ∧ (48 : Int) ≤ b.toNat ∧ (b.toNat : Int) ≤ 51 then (b.toNat : Int) - 48 else -1
  by_cases h : a = 114 ∧ 48 ≤ b.toNat ∧ b.toNat ≤ 51
  · rw [if_pos h, if_pos ⟨by rw [h.1]; rfl, by omega, by omega⟩]
  · rw [if_neg h, if_neg]
    rintro ⟨h1, h2, h3⟩
    exact h ⟨UInt8.toNat_inj.1 (by show a.toNat = 114; omega), by omega, by omega⟩

set_option maxRecDepth 100000 in
set_option maxHeartbeats 4000000 in
theorem reg_ref (s : ByteArray) (w : World) : Calls Tryz.prog 106 #[.string s] w fun e w' => e = .returned (.int .i64 (regI s)) ∧ w = w' := by
  by_cases h2 : s.size = 2
  · have n0 : 0 < s.size := by omega
    have n1 : 1 < s.size := by omega
    have hr := hid (regI_at h2 n0 n1)
    have i2 : ((s.size : Int) == 2) = true := by rw [h2]; rfl
    have ba : (s[0].toNat : Int) < 256 := by have := s[0].toNat_lt; omega
    have bb : (s[1].toNat : Int) < 256 := by have := s[1].toNat_lt; omega
    have a0 : (0 : Int) ≤ s[0].toNat := by omega
    have b0 : (0 : Int) ≤ s[1].toNat := by omega
    have i0 : (0 : Int) < s.size := by omega
    have i1 : (1 : Int) < s.size := by omega
    clear h2
    go_enter Tryz.func106, Tryz.ntmps106
    go_wp2_with fail
    all_goals go_ret
    all_goals refine ⟨ret_int ?_, rfl⟩
    all_goals rw [hr.out]
    all_goals first
      | (rw [if_pos ⟨by omega, by omega, by omega⟩]; done)
      | (rw [if_neg (by omega)]; done)
      | (rw [if_neg (by intro h; omega)]; done)
  · have hr := hid (regI_not h2)
    have i2 : ((s.size : Int) == 2) = false := by
      have : ¬ (s.size : Int) = 2 := by omega
      simpa using this
    clear h2
    go_enter Tryz.func106, Tryz.ntmps106
    go_wp2_with fail
    go_ret
    exact ⟨ret_int (by rw [hr.out]), rfl⟩

set_option maxRecDepth 100000 in
set_option maxHeartbeats 8000000 in
theorem name_ref (s : ByteArray) (w : World) : Calls Tryz.prog 65 #[.string s] w fun e w' => e = .returned (.bool (nameB s)) ∧ Below w.heap.size w w' := by
  cases hl : s.data.toList with
  | nil =>
    have he : s.toList.isEmpty = true := by rw [Lib.toList_data, hl]; rfl
    have hn : Hid (nameB s = false) := by show _ = _; unfold nameB; rw [hl]
    clear hl
    go_enter Tryz.func65, Tryz.ntmps65
    go_wp2_with fail
    go_ret
    exact ⟨ret_bool (by rw [hn.out]), Below.refl _ _⟩
  | cons c r =>
    have hne : s.toList.isEmpty = false := by rw [Lib.toList_data, hl]; rfl
    have h1 : 0 < s.size := by rw [← data_len, hl]; simp
    have hc : s[0] = c := by
      have := drop_byte s 0 h1
      rw [List.drop_zero, hl] at this
      exact (List.cons.inj this).1.symm
    have i0 : (0 : Int) < s.size := by omega
    have hn : Hid (nameB s = (decide (s.size ≤ 12) && letterB s[0] && decide (runP partB s.data.toList = s.size) && !keyB s && decide (regI s < 0))) := by
      show _ = _
      unfold nameB
      rw [hl, hc]
    have hlet := letterR_any s[0] w
    have hkey := key_ref s w
    have hreg := fun w' => reg_ref s w'
    clear hl hc
    by_cases h12 : s.size ≤ 12
    · have h12' : (s.size : Int) ≤ 12 := by omega
      have h12n : ¬ (12 : Int) < s.size := by omega
      have h12d : decide ((12 : Int) < s.size) = false := decide_eq_false h12n
      have hx1 : decide (s.size ≤ 12) = true := decide_eq_true h12
      rw [hx1, Bool.true_and] at hn
      cases hL : letterB s[0] with
      | false =>
        rw [hL] at hn hlet
        have hfin : Hid (nameB s = false) := hn.out
        clear hn hL hkey hreg
        go_enter Tryz.func65, Tryz.ntmps65
        go_wp2_with (first
          | (go_at_call 104; refine hlet.mono ?_; rintro e w1 ⟨rfl, rfl⟩)
          | fail)
        go_ret
        exact ⟨ret_bool (by rw [hfin.out]), Below.refl _ _⟩
      | true =>
        rw [hL, Bool.true_and] at hn
        rw [hL] at hlet
        cases hK : keyB s with
        | true =>
          rw [hK] at hn hkey
          have hfin : Hid (nameB s = false) := by show _ = _; rw [hn.out]; simp
          clear hn hL hK hreg
          go_enter Tryz.func65, Tryz.ntmps65
          go_wp2_with (first
            | (go_at_call 104; refine hlet.mono ?_; rintro e w1 ⟨rfl, rfl⟩)
            | (go_at_call 105; refine hkey.mono ?_; rintro e w1 ⟨rfl, hb1⟩)
            | fail)
          go_ret
          exact ⟨ret_bool (by rw [hfin.out]), hb1⟩
        | false =>
          rw [hK] at hn hkey
          simp only [Bool.not_false, Bool.and_true] at hn
          by_cases hR : regI s < 0
          · rw [decide_eq_true hR, Bool.and_true] at hn
            have hR' : ¬ 0 ≤ regI s := by omega
            generalize regI s = x at hreg hR hR'
            clear hL hK
            go_enter Tryz.func65, Tryz.ntmps65
            go_wp2_with (first
              | (go_at_call 104; refine hlet.mono ?_; rintro e w1 ⟨rfl, rfl⟩)
              | (go_at_call 105; refine hkey.mono ?_; rintro e w1 ⟨rfl, hb1⟩)
              | (go_at_call 106; refine (hreg w1).mono ?_; rintro e w2 ⟨rfl, rfl⟩)
              | fail)
            go_loopw [3] (fun i wr => ∃ k : Nat, k ≤ s.size ∧ i = .int .i64 k ∧ Hid (runP partB s.data.toList = k + runP partB (s.data.toList.drop k)) ∧ w1 = wr) (fun i _ => s.size - (intOf i).toNat)
            case atStart => exact ⟨0, Nat.zero_le _, rfl, by simp [Hid], rfl⟩
            case round =>
              obtain ⟨k, hk, rfl, hp, hw⟩ := hrel
              subst hw
              by_cases hlt : k < s.size
              · have k0 : (0 : Int) ≤ k := by omega
                have k1 : (k : Int) < s.size := by omega
                have hd := hid (drop_byte s k hlt)
                have hdi := fun w => digitR_any s[k] w
                have hle := fun w => letterR_any s[k] w
                have hpb : Hid (partB s[k] = (letterB s[k] || digitB s[k])) := rfl
                cases hD : digitB s[k] <;> cases hLk : letterB s[k]
                · rw [hD, hLk] at hpb
                  simp only [hD] at hdi
                  simp only [hLk] at hle
                  have hfin : Hid (nameB s = false) := by
                    show _ = _
                    rw [hn.out, hp.out, hd.out, runP_cons_neg hpb.out]
                    exact decide_eq_false (by omega)
                  clear hp hd hD hLk hpb hn
                  go_wp2_with (first
                    | (go_at_call 104; refine (hle _).mono ?_; rintro e w1 ⟨rfl, rfl⟩)
                    | (go_at_call 107; refine (hdi _).mono ?_; rintro e w1 ⟨rfl, rfl⟩)
                    | fail)
                  go_ret
                  exact ⟨ret_bool (by rw [hfin.out]), hb1⟩
                all_goals
                  rw [hD, hLk] at hpb
                  simp only [hD] at hdi
                  simp only [hLk] at hle
                  have hp2 : Hid (runP partB s.data.toList = (k + 1 : Nat) + runP partB (s.data.toList.drop (k + 1))) := by
                    show _ = _
                    rw [hp.out, hd.out, runP_cons_pos hpb.out]; omega
                  clear hp hd hD hLk hpb
                  go_wp2_with (first
                    | (go_at_call 104; refine (hle _).mono ?_; rintro e w1 ⟨rfl, rfl⟩)
                    | (go_at_call 107; refine (hdi _).mono ?_; rintro e w1 ⟨rfl, rfl⟩)
                    | fail)
                  go_roundw
                  case rel => exact ⟨k + 1, by omega, by simp, hp2, by trivial⟩
                  case measure => simp [intOf]; omega
              · obtain rfl : k = s.size := by omega
                have hfin : Hid (nameB s = true) := by
                  show _ = _
                  rw [hn.out, hp.out, List.drop_eq_nil_of_le (Nat.le_of_eq (data_len s)), runP_nil]
                  exact decide_eq_true (by omega)
                clear hp hn
                go_wp2_with fail
                go_ret
                exact ⟨ret_bool (by rw [hfin.out]), hb1⟩
          · have hfin : Hid (nameB s = false) := by show _ = _; rw [hn.out, decide_eq_false hR]; simp
            have hR' : 0 ≤ regI s := by omega
            generalize regI s = x at hreg hR hR'
            clear hL hK hn hR
            go_enter Tryz.func65, Tryz.ntmps65
            go_wp2_with (first
              | (go_at_call 104; refine hlet.mono ?_; rintro e w1 ⟨rfl, rfl⟩)
              | (go_at_call 105; refine hkey.mono ?_; rintro e w1 ⟨rfl, hb1⟩)
              | (go_at_call 106; refine (hreg w1).mono ?_; rintro e w2 ⟨rfl, rfl⟩)
              | fail)
            go_ret
            exact ⟨ret_bool (by rw [hfin.out]), hb1⟩
    · have hfin : Hid (nameB s = false) := by show _ = _; rw [hn.out, decide_eq_false h12]; simp
      have h12' : (12 : Int) < s.size := by omega
      clear hn hlet hkey h12
      go_enter Tryz.func65, Tryz.ntmps65
      go_wp2_with fail
      go_ret
      exact ⟨ret_bool (by rw [hfin.out]), Below.refl _ _⟩
end Go.Proofs.YtphlbbnmligadaaGreatDoor
namespace Go.Proofs.YtphlbbnmligadaaGreatDoor
open Go.RowKit

theorem take_all_snoc {α : Type} (f : α → Bool) (t : List α) (k : Nat) (hk : k < t.length) (h : (t.take k).all f = true) : (t.take (k + 1)).all f = f t[k] := by
  rw [List.take_succ_eq_append_getElem hk, List.all_append, h]
  simp
theorem take_all_false {α : Type} (f : α → Bool) (t : List α) (k : Nat) (hk : k < t.length) (h : f t[k] = false) : t.all f = false := by
  rw [List.all_eq_false]
  exact ⟨t[k], List.getElem_mem hk, by simp [h]⟩
theorem nodup_take_succ {α : Type} {t : List α} {k : Nat} (hk : k < t.length) (h : (t.take k).Nodup) (hn : ∀ q (hq : q < t.length), q < k → t[q] ≠ t[k]) : (t.take (k + 1)).Nodup := by
  rw [List.take_succ_eq_append_getElem hk, List.nodup_append]
  refine ⟨h, by simp, fun a ha b hb => ?_⟩
  obtain ⟨q, hq, rfl⟩ := List.getElem_of_mem ha
  simp only [List.mem_cons, List.not_mem_nil, or_false] at hb
  subst hb
  have hq2 : q < k ∧ q < t.length := by simp at hq; omega
  rw [List.getElem_take]
  exact hn q hq2.2 hq2.1
theorem nodup_not {α : Type} {t : List α} {q k : Nat} (hk : k < t.length) (hq : q < t.length) (hlt : q < k) (h : t[q] = t[k]) : ¬ t.Nodup := fun hn => by
  have := List.pairwise_iff_getElem.1 hn q k hq hk hlt
  exact this h
theorem rightP_eq (p : Pg) : rightP p = (decide (1 ≤ p.vars.length) && decide (p.vars.length ≤ 4) && p.vars.all nameB && decide (p.vars.Nodup) && (decide (2 ≤ p.dom) && decide (p.dom ≤ 16) && decide (1 ≤ p.ths.length) && decide (p.ths.length ≤ 4) && sumT p.vars.length p.dom p.ths)) := by
  unfold rightP
  simp only [Bool.and_assoc]

set_option maxRecDepth 100000 in
set_option maxHeartbeats 8000000 in
theorem rRight_any (p : Pg) (cs : List Value) (w : World) (hin : PgIn w (In_ w) cs p) :
    Calls Tryz.prog 38 #[.agg cs.toArray] w fun e w' => e = .returned (.bool (rightP p)) ∧ Below w.heap.size w w' := by
  obtain ⟨va, cv, ta, ct, rfl, hv, ht, hwf⟩ := hin
  have hres := hid (rightP_eq p)
  obtain ⟨vars, dom, ths⟩ := p
  simp only at hv ht hwf hres
  have hvc := hv.le
  have hvm := hv.mx
  have htc := ht.le
  have htm := ht.mx
  unfold maxLen at hvm htm
  have hB : Below w.heap.size w (w.alloc (.cells #[.slice va vars.length cv, .int .i64 dom, .slice ta ths.length ct] 27)) := (Below.refl _ _).alloc (Nat.le_refl _) _
  have Hv := hid ((Kp.of hB).vr hv)
  have Ht := hid ((Kp.of hB).ts ht)
  have HB := hid hB
  clear hv ht hB
  go_enter Tryz.func38, Tryz.ntmps38
  by_cases l1 : vars.length < 1
  · have hf : Hid (rightP ⟨vars, dom, ths⟩ = false) := by show _ = _; rw [hres.out, decide_eq_false (show ¬ 1 ≤ vars.length by omega)]; rfl
    go_wp2_with fail
    go_ret
    exact ⟨ret_bool (by rw [hf.out]), HB.out⟩
  by_cases l4 : 4 < vars.length
  · have hf : Hid (rightP ⟨vars, dom, ths⟩ = false) := by show _ = _; rw [hres.out, decide_eq_false (show ¬ vars.length ≤ 4 by omega)]; simp
    go_wp2_with fail
    go_ret
    exact ⟨ret_bool (by rw [hf.out]), HB.out⟩
  by_cases d2 : dom < 2
  · have hf : Hid (rightP ⟨vars, dom, ths⟩ = false) := by show _ = _; rw [hres.out, decide_eq_false (show ¬ 2 ≤ dom by omega)]; simp
    go_wp2_with fail
    go_ret
    exact ⟨ret_bool (by rw [hf.out]), HB.out⟩
  by_cases d16 : 16 < dom
  · have hf : Hid (rightP ⟨vars, dom, ths⟩ = false) := by show _ = _; rw [hres.out, decide_eq_false (show ¬ dom ≤ 16 by omega)]; simp
    go_wp2_with fail
    go_ret
    exact ⟨ret_bool (by rw [hf.out]), HB.out⟩
  by_cases t1 : ths.length < 1
  · have hf : Hid (rightP ⟨vars, dom, ths⟩ = false) := by show _ = _; rw [hres.out, decide_eq_false (show ¬ 1 ≤ ths.length by omega)]; simp
    go_wp2_with fail
    go_ret
    exact ⟨ret_bool (by rw [hf.out]), HB.out⟩
  by_cases t4 : 4 < ths.length
  · have hf : Hid (rightP ⟨vars, dom, ths⟩ = false) := by show _ = _; rw [hres.out, decide_eq_false (show ¬ ths.length ≤ 4 by omega)]; simp
    go_wp2_with fail
    go_ret
    exact ⟨ret_bool (by rw [hf.out]), HB.out⟩
  have hres2 : Hid (rightP ⟨vars, dom, ths⟩ = (vars.all nameB && decide vars.Nodup && sumT vars.length dom ths)) := by
    show _ = _
    rw [hres.out, decide_eq_true (show 1 ≤ vars.length by omega), decide_eq_true (show vars.length ≤ 4 by omega), decide_eq_true (show 2 ≤ dom by omega), decide_eq_true (show dom ≤ 16 by omega), decide_eq_true (show 1 ≤ ths.length by omega), decide_eq_true (show ths.length ≤ 4 by omega)]
    rfl
  clear hres
  go_wp2_with fail
  have hv4 : vars.length ≤ 4 := by omega
  have ht4 : ths.length ≤ 4 := by omega
  clear l1 l4 d2 d16 t1 t4
  generalize hW : World.alloc w _ = W0 at *
  have z0 : w.heap.size < W0.heap.size := by subst hW; simp
  have c0 : W0.cell? ⟨w.heap.size, 0, none⟩ = some (.slice va vars.length cv) := by subst hW; go_simp
  have c1 : W0.cell? ⟨w.heap.size, 1, none⟩ = some (.int .i64 dom) := by subst hW; go_simp
  have c2 : W0.cell? ⟨w.heap.size, 2, none⟩ = some (.slice ta ths.length ct) := by subst hW; go_simp
  clear hW
  go_loopw [3] (fun i wr => ∃ k : Nat, k ≤ vars.length ∧ i = .int .i64 k ∧ Hid ((vars.take k).all nameB = true ∧ (vars.take k).Nodup) ∧ Kp W0 wr) (fun i _ => vars.length - (intOf i).toNat)
  case atStart => exact ⟨0, Nat.zero_le _, rfl, ⟨rfl, by simp⟩, Kp.refl _⟩
  case round =>
    obtain ⟨k, hk, rfl, hI, hK⟩ := hrel
    by_cases hlt : k < vars.length
    · obtain ⟨bb, off, rfl, hbb, e0⟩ := Hv.out.at_ k hlt
      have hbl := hbb.lt
      have k0 : (0 : Int) ≤ k := by omega
      have k1 : (k : Int) < vars.length := by omega
      have g0 := hK.1.size
      have g1 : w.heap.size < wr.heap.size := by omega
      have g3 : bb < wr.heap.size := by omega
      have hbad : Hid (nameB vars[k] = false → rightP ⟨vars, dom, ths⟩ = false) := fun h => by rw [hres2.out, take_all_false nameB vars k hlt h]; rfl
      have hdup : Hid (∀ q (hq : q < vars.length), q < k → vars[q] = vars[k] → rightP ⟨vars, dom, ths⟩ = false) := fun q hq hqk h => by
        rw [hres2.out, decide_eq_false (nodup_not hlt hq hqk h)]; simp
      have hall : Hid (nameB vars[k] = true → (vars.take (k + 1)).all nameB = true) := fun h => by rw [take_all_snoc nameB vars k hlt hI.out.1, h]
      have hnod : Hid ((∀ q (hq : q < vars.length), q < k → vars[q] ≠ vars[k]) → (vars.take (k + 1)).Nodup) := fun h => nodup_take_succ hlt hI.out.2 h
      clear hI
      obtain ⟨s, hs⟩ : ∃ s, s = vars[k] := ⟨_, rfl⟩
      rw [← hs] at e0 hbad hall
      have Hs := hid hs
      clear hs
      have hcall := hid (fun W => name_ref s W)
      cases hn : nameB s
      · have hf := hid (hbad.out hn)
        rw [hn] at hcall
        clear hn hall
        go_wp2_with (first
          | (go_at_call 65
             with_reducible refine (hcall.out _).mono ?_
             rintro e w1 ⟨rfl, hb1⟩)
          | fail)
        go_ret
        exact ⟨ret_bool (by rw [hf.out]), Kp.fin HB.out (hK.next hb1)⟩
      · have hall2 := hid (hall.out hn)
        rw [hn] at hcall
        clear hn hall hbad
        go_wp2_with (first
          | (go_at_call 65
             with_reducible refine (hcall.out _).mono ?_
             rintro e w1 ⟨rfl, hb1⟩
             have hK1 := hK.next hb1
             clear hb1 hK g0 g1 g3)
          | fail)
        go_loopw [4] (fun j wr => ∃ q : Nat, q ≤ k ∧ j = .int .i64 q ∧ Hid (∀ p (hp : p < vars.length), p < q → vars[p] ≠ s) ∧ Kp W0 wr) (fun j _ => k - (intOf j).toNat)
        case atStart => exact ⟨0, Nat.zero_le _, rfl, fun p _ h => absurd h (by omega), hK1⟩
        case round =>
          clear hK1
          obtain ⟨q, hq, rfl, hJ, hK⟩ := hrel
          by_cases hlt2 : q < k
          · have hqv : q < vars.length := by omega
            obtain ⟨b2, off2, e, hb2, f0⟩ := Hv.out.at_ q hqv
            simp only [Option.some.injEq, Addr.mk.injEq, and_true] at e
            obtain ⟨rfl, rfl⟩ := e
            have q0 : (0 : Int) ≤ q := by omega
            have q1 : (q : Int) < vars.length := by omega
            have q2 : (q : Int) < k := by omega
            have k2 : (k : Int) < vars.length := by omega
            have g0 := hK.1.size
            have g1 : w.heap.size < wr.heap.size := by omega
            have g3 : bb < wr.heap.size := by omega
            have hd := hid (hdup.out q hqv hlt2)
            by_cases heq : vars[q] = s
            · have hf := hid (hd.out (heq.trans Hs.out))
              rw [heq] at f0
              have heqs : (s.toList == s.toList) = true := by simp
              clear hd heq hJ
              go_wp2_with fail
              go_quiet (fail)
              have HK3 := hid (drewN_kp hK nq)
              go_wp2_with fail
              go_ret
              exact ⟨ret_bool (by rw [hf.out]), Kp.fin HB.out HK3.out⟩
            · have hJ2 : Hid (∀ p (hp : p < vars.length), p < q + 1 → vars[p] ≠ s) := fun p hp h => by
                by_cases e : p = q
                · subst e; exact heq
                · exact hJ.out p hp (by omega)
              have heqs := str_ne heq
              generalize vars[q] = z at f0 heqs
              clear hd heq hJ
              go_wp2_with fail
              go_quiet (fail)
              have HK3 := hid (drewN_kp hK nq)
              go_wp2_with fail
              go_roundw
              case rel => exact ⟨q + 1, by omega, by simp, hJ2, HK3.out⟩
              case measure => simp [intOf]; omega
          · obtain rfl : q = k := by omega
            have hno := hid (hnod.out fun p hp h => by rw [← Hs.out]; exact hJ.out p hp h)
            clear hJ hdup hnod
            go_wp2_with fail
            go_roundw
            case rel => exact ⟨q + 1, by omega, by simp, ⟨hall2.out, hno.out⟩, hK⟩
            case measure => simp [intOf]; omega
    · obtain rfl : k = vars.length := by omega
      rw [List.take_length] at hI
      have hres3 : Hid (rightP ⟨vars, dom, ths⟩ = sumT vars.length dom ths) := by
        show _ = _
        rw [hres2.out, hI.out.1, decide_eq_true hI.out.2]
        rfl
      clear hI hres2
      go_wp2_with fail
      go_loopw [5, 6] (fun c i wr => ∃ (k n : Nat), k ≤ ths.length ∧ i = .int .i64 k ∧ c = .int .i64 n ∧ n ≤ 200 ∧ Hid (okT vars.length dom (ths.take k) = true ∧ n = cntT (ths.take k)) ∧ Kp W0 wr) (fun _ i _ => ths.length - (intOf i).toNat)
      case atStart => exact ⟨0, 0, Nat.zero_le _, rfl, rfl, by omega, ⟨rfl, rfl⟩, hK⟩
      case round =>
        clear hK
        obtain ⟨k, n, hk, rfl, rfl, hn2, hI, hK⟩ := hrel
        by_cases hlt : k < ths.length
        · obtain ⟨bb, off, ar, kr, rfl, hbb, e0, hrow⟩ := Ht.out.at_ k hlt
          have hbl := hbb.lt
          have k0 : (0 : Int) ≤ k := by omega
          have k1 : (k : Int) < ths.length := by omega
          have g0 := hK.1.size
          have g1 : w.heap.size < wr.heap.size := by omega
          have g3 : bb < wr.heap.size := by omega
          have hbad : Hid (sumB vars.length dom 20 ths[k] 0 = false → rightP ⟨vars, dom, ths⟩ = false) := fun h => by
            rw [hres3.out]
            rcases sumB_false h with h | h
            · exact okT_bad hlt h
            · exact sumT_many hlt (by omega)
          have hmany : Hid (200 < n + cntL ths[k] → rightP ⟨vars, dom, ths⟩ = false) := fun h => by
            rw [hres3.out]
            exact sumT_many hlt (by rw [← hI.out.2]; exact h)
          have hgood : Hid (sumB vars.length dom 20 ths[k] 0 = true → okT vars.length dom (ths.take (k + 1)) = true ∧ n + cntL ths[k] = cntT (ths.take (k + 1))) := fun h => by
            exact ⟨okT_step hlt hI.out.1 (sumB_true h).1, by rw [cntT_take ths k hlt, hI.out.2]⟩
          have hcall : Hid (∀ W, Kp W0 W → Calls Tryz.prog 66 #[.slice ar ths[k].length kr, .int .i64 20, .int .i64 vars.length, .int .i64 dom] W (StmtsPost vars.length dom 20 ths[k] W)) := fun W hW =>
            refstmts_any vars.length dom 20 (by omega) 20 ths[k] ar kr W rfl (hW.strow hrow)
          unfold StmtsPost at hcall
          clear hI hrow
          generalize sumB vars.length dom 20 ths[k] 0 = r at *
          generalize cntL ths[k] = m at *
          generalize ths[k].length = tl at *
          go_wp2_with fail
          go_region_held3 (Kp W0)
            (first | exact Kp.drew hK | assumption | exact Kp.next (by assumption) hb1)
            (first
              | (go_at_call 66
                 with_reducible refine (hcall.out _ ?_).mono ?_
                 (focus assumption)
                 rintro e w1 ⟨n1, rfl, hn10, hn11, hn12, hb1⟩)
              | fail)
          have HK := ‹Kp W0 w1›
          cases r
          · have hf := hid (hbad.out rfl)
            go_wp2_with fail
            go_ret
            exact ⟨ret_bool (by rw [hf.out]), Kp.fin HB.out HK⟩
          obtain rfl := hn12 rfl
          have hg2 := hgood.out rfl
          by_cases hm : 200 < n + m
          · have hf := hid (hmany.out hm)
            have hm2 : (200 : Int) < (n : Int) + m := by omega
            go_wp2_with fail
            go_ret
            exact ⟨ret_bool (by rw [hf.out]), Kp.fin HB.out HK⟩
          · have hm2 : ¬ (200 : Int) < (n : Int) + m := by omega
            have Hg2 := hid hg2
            clear hg2
            go_wp2_with fail
            go_roundw
            case rel => exact ⟨k + 1, n + m, by omega, by simp, by simp, by omega, Hg2, HK⟩
            case measure => simp [intOf]; omega
        · obtain rfl : k = ths.length := by omega
          rw [List.take_length] at hI
          have hf : Hid (rightP ⟨vars, dom, ths⟩ = true) := by
            show _ = _
            rw [hres3.out]
            unfold sumT
            rw [hI.out.1, ← hI.out.2]
            simpa using hn2
          clear hI
          go_wp2_with fail
          go_ret
          exact ⟨ret_bool (by rw [hf.out]), Kp.fin HB.out hK⟩
end Go.Proofs.YtphlbbnmligadaaGreatDoor
