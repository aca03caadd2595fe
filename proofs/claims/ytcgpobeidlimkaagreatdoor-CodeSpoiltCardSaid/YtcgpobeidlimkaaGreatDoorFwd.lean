/- Does code lead forwards? And how many stores there are. -/
import Derived.Test.YtcgpobeidlimkaaGreatDoorCodD
import Derived.Test.YtcgpobeidlimkaaGreatDoorBunD
import Derived.Test.YtcgpobeidlimkaaGreatDoorBunM
import Derived.Test.YtcgpobeidlimkaaGreatDoorBunS
import Derived.Deep.CutRange
import Derived.Deep.CutBlock
namespace Go.Proofs.YtcgpobeidlimkaaGreatDoor
open Go.RowKit

def backI (x : Ins) (k : Nat) : Bool := (x.op == 12 || x.op == 13) && decide (x.to ≤ k)
/-- Does none of the first n lead back? -/
def fwdR (l : List Ins) (n : Nat) : Prop := ∀ k (h : k < l.length), k < n → backI l[k] k = false
def fwdT (t : List (List Ins)) (n : Nat) : Prop := ∀ k (h : k < t.length), k < n → fwdR t[k] t[k].length
/-- Does code lead forwards? -/
def fwdB (t : List (List Ins)) : Bool := t.all fun l => (List.range l.length).all fun k => match l[k]? with | some x => !backI x k | none => true
theorem fwdB_bad {t : List (List Ins)} {i k : Nat} (hi : i < t.length) (hk : k < t[i].length) (h : backI t[i][k] k = true) : fwdB t = false := by
  unfold fwdB
  rw [List.all_eq_false]
  refine ⟨t[i], List.getElem_mem hi, ?_⟩
  rw [Bool.not_eq_true, List.all_eq_false]
  exact ⟨k, by simpa using hk, by simp [hk, h]⟩
theorem fwdB_good {t : List (List Ins)} (h : fwdT t t.length) : fwdB t = true := by
  unfold fwdB
  rw [List.all_eq_true]
  intro l hl
  obtain ⟨i, hi, rfl⟩ := List.getElem_of_mem hl
  rw [List.all_eq_true]
  intro k hk
  have hk2 : k < t[i].length := by simpa using hk
  simp [hk2, h i hi hi k hk2 hk2]
theorem fwdR_step {l : List Ins} {k : Nat} (hk : k < l.length) (h : fwdR l k) (hb : backI l[k] k = false) : fwdR l (k + 1) := fun q hq hqk => by
  by_cases e : q = k
  · subst e; exact hb
  · exact h q hq (by omega)
theorem fwdT_step {t : List (List Ins)} {k : Nat} (hk : k < t.length) (h : fwdT t k) (hb : fwdR t[k] t[k].length) : fwdT t (k + 1) := fun q hq hqk => by
  by_cases e : q = k
  · subst e; exact hb
  · exact h q hq (by omega)
def forwardL (vars dom : Int) (t : List (List Ins)) : Bool := fwdB t && rightL vars dom t
def storesL (l : List Ins) : Nat := (l.filter fun x => x.op == 2).length
theorem storesL_take (l : List Ins) (k : Nat) (hk : k < l.length) : storesL (l.take (k + 1)) = storesL (l.take k) + (if l[k].op == 2 then 1 else 0) := by
  unfold storesL
  rw [List.take_succ_eq_append_getElem hk, List.filter_append, List.length_append]
  cases h : l[k].op == 2 <;> simp [h]
theorem storesL_le (l : List Ins) (k : Nat) : storesL (l.take k) ≤ k := by
  unfold storesL
  exact Nat.le_trans (List.length_filter_le _ _) (by simp; omega)

set_option maxHeartbeats 4000000 in
theorem rstores_any (l : List Ins) (a : Option Addr) (cap : Nat) (w : World) (hin : InsRow w (In_ w) a l.length cap l) : Calls Tryz.prog 31 #[.slice a l.length cap] w fun e w' => e = .returned (.int .i64 (storesL l)) ∧ w' = w := by
  have hcap := hin.le
  have hmx := hin.mx
  unfold maxLen at hmx
  have Hin := hid hin
  clear hin
  go_enter Tryz.func31, Tryz.ntmps31
  go_wp2_with fail
  go_loopw [3, 4] (fun c i wr => ∃ (k n : Nat), k ≤ l.length ∧ i = .int .i64 k ∧ c = .int .i64 n ∧ n ≤ k ∧ Hid (n = storesL (l.take k)) ∧ w = wr) (fun _ i _ => l.length - (intOf i).toNat)
  case atStart => exact ⟨0, 0, Nat.zero_le _, rfl, rfl, by omega, rfl, rfl⟩
  case round =>
    obtain ⟨k, n, hk, rfl, rfl, hnk, hn, hw⟩ := hrel
    subst hw
    by_cases hlt : k < l.length
    · obtain ⟨b, off, u0, u1, u2, u3, v0, v1, v2, v3, rfl, hb, ⟨e0, -⟩, -⟩ := Hin.out.at_ k hlt
      have hbl := hb.lt
      have k0 : (0 : Int) ≤ k := by omega
      have k1 : (k : Int) < l.length := by omega
      have hst := storesL_take l k hlt
      rw [← hn.out] at hst
      generalize l[k].op = op at *
      cases h2 : (op == 2)
      · have hst2 : Hid (n = storesL (l.take (k + 1))) := by show _ = _; rw [hst, h2]; simp
        clear hst hn
        go_wp2_with fail
        go_roundw
        case rel => exact ⟨k + 1, n, by omega, by simp, rfl, by omega, hst2, by trivial⟩
        case measure => simp [intOf]; omega
      · have hst2 : Hid (n + 1 = storesL (l.take (k + 1))) := by show _ = _; rw [hst, h2]; simp
        clear hst hn
        go_wp2_with fail
        go_roundw
        case rel => exact ⟨k + 1, n + 1, by omega, by simp, by simp, by omega, hst2, by trivial⟩
        case measure => simp [intOf]; omega
    · obtain rfl : k = l.length := by omega
      rw [List.take_length] at hn
      go_wp2_with fail
      go_ret
      exact ⟨by rw [← hn.out]; rfl, rfl⟩

set_option maxHeartbeats 4000000 in
theorem pstores_any (l : List Ins) (a : Option Addr) (cap : Nat) (w : World) (hin : InsRow w (In_ w) a l.length cap l) : Calls Tryz.prog 24 #[.slice a l.length cap] w fun e w' => e = .returned (.int .i64 (storesL l)) ∧ Below w.heap.size w w' := by
  have hcap := hin.le
  have hmx := hin.mx
  unfold maxLen at hmx
  have Hin := hid hin
  clear hin
  go_enter Tryz.func24, Tryz.ntmps24
  go_wp2_with fail
  go_loopw [2, 7] (fun c i wr => ∃ (k n : Nat), k ≤ l.length ∧ i = .int .i64 k ∧ c = .int .i64 n ∧ n ≤ k ∧ Hid (n = storesL (l.take k)) ∧ Kp w wr) (fun _ i _ => l.length - (intOf i).toNat)
  case atStart => exact ⟨0, 0, Nat.zero_le _, rfl, rfl, by omega, rfl, Kp.refl _⟩
  case round =>
    obtain ⟨k, n, hk, rfl, rfl, hnk, hn, hK⟩ := hrel
    by_cases hlt : k < l.length
    · obtain ⟨b, off, u0, u1, u2, u3, v0, v1, v2, v3, rfl, hb, ⟨e0, e1, e2⟩, ⟨e3, e4, e5, e6⟩, ⟨e7, e8, e9, e10⟩, e11, ha, hbx⟩ := Hin.out.at_ k hlt
      have hbl := hb.lt
      have k0 : (0 : Int) ≤ k := by omega
      have k1 : (k : Int) < l.length := by omega
      have g0 := hK.1.size
      have g3 : b < wr.heap.size := by omega
      have hst := storesL_take l k hlt
      rw [← hn.out] at hst
      obtain ⟨o0, o1, o2, o3⟩ := ha.ones
      obtain ⟨o4, o5, o6, o7⟩ := hbx.ones
      have s0 := fun ad W m => run_store (P := Tryz.prog) W ad u0 m o0
      have s1 := fun ad W m => run_store (P := Tryz.prog) W ad u1 m o1
      have s2 := fun ad W m => run_store (P := Tryz.prog) W ad u2 m o2
      have s3 := fun ad W m => run_store (P := Tryz.prog) W ad u3 m o3
      have s4 := fun ad W m => run_store (P := Tryz.prog) W ad v0 m o4
      have s5 := fun ad W m => run_store (P := Tryz.prog) W ad v1 m o5
      have s6 := fun ad W m => run_store (P := Tryz.prog) W ad v2 m o6
      have s7 := fun ad W m => run_store (P := Tryz.prog) W ad v3 m o7
      clear ha hbx o0 o1 o2 o3 o4 o5 o6 o7
      generalize l[k].op = op at *
      have HK := hid (fun o => Kp.alloc hK o)
      cases h2 : (op == 2)
      · have hst2 : Hid (n = storesL (l.take (k + 1))) := by show _ = _; rw [hst, h2]; simp
        clear hst hn
        go_wp2_with fail
        go_roundw
        case rel => exact ⟨k + 1, n, by omega, by simp, rfl, by omega, hst2, HK.out _⟩
        case measure => simp [intOf]; omega
      · have hst2 : Hid (n + 1 = storesL (l.take (k + 1))) := by show _ = _; rw [hst, h2]; simp
        clear hst hn
        go_wp2_with fail
        go_roundw
        case rel => exact ⟨k + 1, n + 1, by omega, by simp, by simp, by omega, hst2, HK.out _⟩
        case measure => simp [intOf]; omega
    · obtain rfl : k = l.length := by omega
      rw [List.take_length] at hn
      go_wp2_with fail
      go_ret
      exact ⟨by rw [← hn.out]; rfl, hK.1⟩

set_option maxRecDepth 100000 in
set_option maxHeartbeats 8000000 in
theorem pforward_any (vars dom : Int) (a : Option Addr) (n cap : Nat) (t : List (List Ins)) (w : World) (hin : ThsIn w (In_ w) a n cap t) :
    Calls Tryz.prog 22 #[.agg #[.int .i64 vars, .int .i64 dom, .slice a n cap]] w fun e w' => e = .returned (.bool (forwardL vars dom t)) ∧ Below w.heap.size w w' := by
  have hn := hin.1
  subst hn
  have hcap := hin.le
  have hmx := hin.mx
  unfold maxLen at hmx
  generalize hW : w.alloc (.cells #[.int .i64 vars, .int .i64 dom, .slice a t.length cap] 30) = W0
  have hB : Below w.heap.size w W0 := by subst hW; exact (Below.refl _ _).alloc (Nat.le_refl _) _
  have z0 : w.heap.size < W0.heap.size := by subst hW; simp
  have c0 : W0.cell? ⟨w.heap.size, 0, none⟩ = some (.int .i64 vars) := by subst hW; go_simp
  have c1 : W0.cell? ⟨w.heap.size, 1, none⟩ = some (.int .i64 dom) := by subst hW; go_simp
  have c2 : W0.cell? ⟨w.heap.size, 2, none⟩ = some (.slice a t.length cap) := by subst hW; go_simp
  have Hin := hid ((Kp.of hB).ths hin)
  have HB := hid hB
  have hWx := hid hW
  clear hW hB hin
  go_enter Tryz.func22, Tryz.ntmps22
  go_wp2_with fail
  rw [hWx.out]
  go_loopw [10] (fun i wr => ∃ k : Nat, k ≤ t.length ∧ i = .int .i64 k ∧ Hid (fwdT t k) ∧ Kp W0 wr) (fun i _ => t.length - (intOf i).toNat)
  case atStart => exact ⟨0, Nat.zero_le _, rfl, fun k _ h => absurd h (by omega), Kp.refl _⟩
  case round =>
    obtain ⟨k, hk, rfl, hI, hK⟩ := hrel
    by_cases hlt : k < t.length
    · obtain ⟨bb, off, ar, kr, rfl, hbb, e0, hrow⟩ := Hin.out.at_ k hlt
      have hbl := hbb.lt
      have k0 : (0 : Int) ≤ k := by omega
      have k1 : (k : Int) < t.length := by omega
      have g0 := hK.1.size
      have g3 : bb < wr.heap.size := by omega
      have hstep := hid (fun h => fwdT_step hlt hI.out h)
      have hbad := hid (fun q h1 h2 => fwdB_bad (t := t) (i := k) (k := q) hlt h1 h2)
      have hrc := hrow.le
      have hrm := hrow.mx
      unfold maxLen at hrm
      have hrow := hid hrow
      clear hI
      generalize t[k] = l at *
      go_wp2_with fail
      go_loopw [16] (fun i wr => ∃ q : Nat, q ≤ l.length ∧ i = .int .i64 q ∧ Hid (fwdR l q) ∧ Kp W0 wr) (fun i _ => l.length - (intOf i).toNat)
      case atStart => exact ⟨0, Nat.zero_le _, rfl, fun k _ h => absurd h (by omega), hK⟩
      case round =>
        clear hK g0 g3
        obtain ⟨q, hq, rfl, hJ, hK⟩ := hrel
        by_cases hlt2 : q < l.length
        · obtain ⟨b, off2, u0, u1, u2, u3, v0, v1, v2, v3, rfl, hb, ⟨f0, f1, f2⟩, ⟨f3, f4, f5, f6⟩, ⟨f7, f8, f9, f10⟩, f11, ha, hbx⟩ := hrow.out.at_ q hlt2
          have hb2 := hb.lt
          have q0 : (0 : Int) ≤ q := by omega
          have q1 : (q : Int) < l.length := by omega
          have g0 := hK.1.size
          have g3 : b < wr.heap.size := by omega
          have g4 : w.heap.size < wr.heap.size := by omega
          obtain ⟨o0, o1, o2, o3⟩ := ha.ones
          obtain ⟨o4, o5, o6, o7⟩ := hbx.ones
          have s0 := fun ad W m => run_store (P := Tryz.prog) W ad u0 m o0
          have s1 := fun ad W m => run_store (P := Tryz.prog) W ad u1 m o1
          have s2 := fun ad W m => run_store (P := Tryz.prog) W ad u2 m o2
          have s3 := fun ad W m => run_store (P := Tryz.prog) W ad u3 m o3
          have s4 := fun ad W m => run_store (P := Tryz.prog) W ad v0 m o4
          have s5 := fun ad W m => run_store (P := Tryz.prog) W ad v1 m o5
          have s6 := fun ad W m => run_store (P := Tryz.prog) W ad v2 m o6
          have s7 := fun ad W m => run_store (P := Tryz.prog) W ad v3 m o7
          clear ha hbx o0 o1 o2 o3 o4 o5 o6 o7
          have hbI : Hid (backI l[q] q = ((l[q].op == 12 || l[q].op == 13) && decide (l[q].to ≤ q))) := rfl
          have hst := hid (fun h => fwdR_step hlt2 hJ.out h)
          have hbd := hid (fun h => hbad.out q hlt2 h)
          clear hJ
          generalize hx : backI l[q] q = bk at *
          generalize l[q].op = op at *
          generalize l[q].reg = rg at *
          generalize l[q].v = vv at *
          generalize l[q].to = dst at *
          clear hx
          have HK := hid (fun o => Kp.alloc hK o)
          have hleads := leads_any op
          cases hl : (op == 12 || op == 13)
          · have hbk : bk = false := by rw [hbI.out, hl]; rfl
            have hst2 := hid (hst.out hbk)
            have hld := hid (fun W => (leads_any op W))
            rw [hl] at hld
            clear hl hbI hleads hbk
            go_wp2_with (first
              | (go_at_call 40
                 with_reducible refine (hld.out _).mono ?_
                 rintro e wl ⟨rfl, rfl⟩)
              | fail)
            go_roundw
            case rel => exact ⟨q + 1, by omega, by simp, hst2, HK.out _⟩
            case measure => simp [intOf]; omega
          · have hld := hid (fun W => (leads_any op W))
            rw [hl] at hld
            cases hd : decide (dst ≤ q)
            · have hbk : bk = false := by rw [hbI.out, hl, hd]; rfl
              have hst2 := hid (hst.out hbk)
              clear hl hbI hleads hbk
              go_wp2_with (first
                | (go_at_call 40
                   with_reducible refine (hld.out _).mono ?_
                   rintro e wl ⟨rfl, rfl⟩)
                | fail)
              go_roundw
              case rel => exact ⟨q + 1, by omega, by simp, hst2, HK.out _⟩
              case measure => simp [intOf]; omega
            · have hbk : bk = true := by rw [hbI.out, hl, hd]; rfl
              have hf := hid (hbd.out hbk)
              clear hl hbI hleads hbk
              go_wp2_with (first
                | (go_at_call 40
                   with_reducible refine (hld.out _).mono ?_
                   rintro e wl ⟨rfl, rfl⟩)
                | fail)
              go_ret
              exact ⟨ret_bool (by unfold forwardL; rw [hf.out]; rfl), Kp.fin HB.out (HK.out _)⟩
        · obtain rfl : q = l.length := by omega
          have hst2 := hid (hstep.out hJ.out)
          clear hJ
          go_wp2_with fail
          go_roundw
          case rel => exact ⟨k + 1, by omega, by simp, hst2, hK⟩
          case measure => simp [intOf]; omega
    · obtain rfl : k = t.length := by omega
      have hg := hid (fwdB_good hI.out)
      have hR := hid (right_any vars dom a t.length cap t wr (hK.ths Hin.out))
      have g4 : w.heap.size < wr.heap.size := by have := hK.1.size; omega
      clear hI
      go_wp2_with (first
        | (go_at_call 21
           with_reducible refine hR.out.mono ?_
           rintro e w2 ⟨rfl, hb2⟩)
        | fail)
      go_ret
      exact ⟨ret_bool (by unfold forwardL; rw [hg.out]; rfl), Kp.fin HB.out (hK.next hb2)⟩

set_option maxRecDepth 100000 in
set_option maxHeartbeats 8000000 in
theorem rforward_any (vars dom : Int) (a : Option Addr) (n cap : Nat) (t : List (List Ins)) (w : World) (hin : ThsIn w (In_ w) a n cap t) :
    Calls Tryz.prog 33 #[.agg #[.int .i64 vars, .int .i64 dom, .slice a n cap]] w fun e w' => e = .returned (.bool (forwardL vars dom t)) ∧ Below w.heap.size w w' := by
  have hn := hin.1
  subst hn
  have hcap := hin.le
  have hmx := hin.mx
  unfold maxLen at hmx
  generalize hW : w.alloc (.cells #[.int .i64 vars, .int .i64 dom, .slice a t.length cap] 30) = W0
  have hB : Below w.heap.size w W0 := by subst hW; exact (Below.refl _ _).alloc (Nat.le_refl _) _
  have z0 : w.heap.size < W0.heap.size := by subst hW; simp
  have c0 : W0.cell? ⟨w.heap.size, 0, none⟩ = some (.int .i64 vars) := by subst hW; go_simp
  have c1 : W0.cell? ⟨w.heap.size, 1, none⟩ = some (.int .i64 dom) := by subst hW; go_simp
  have c2 : W0.cell? ⟨w.heap.size, 2, none⟩ = some (.slice a t.length cap) := by subst hW; go_simp
  have Hin := hid ((Kp.of hB).ths hin)
  have HB := hid hB
  have hWx := hid hW
  clear hW hB hin
  go_enter Tryz.func33, Tryz.ntmps33
  go_wp2_with fail
  rw [hWx.out]
  go_loopw [3] (fun i wr => ∃ k : Nat, k ≤ t.length ∧ i = .int .i64 k ∧ Hid (fwdT t k) ∧ Kp W0 wr) (fun i _ => t.length - (intOf i).toNat)
  case atStart => exact ⟨0, Nat.zero_le _, rfl, fun k _ h => absurd h (by omega), Kp.refl _⟩
  case round =>
    obtain ⟨k, hk, rfl, hI, hK⟩ := hrel
    by_cases hlt : k < t.length
    · obtain ⟨bb, off, ar, kr, rfl, hbb, e0, hrow⟩ := Hin.out.at_ k hlt
      have hbl := hbb.lt
      have k0 : (0 : Int) ≤ k := by omega
      have k1 : (k : Int) < t.length := by omega
      have g0 := hK.1.size
      have g3 : bb < wr.heap.size := by omega
      have hstep := hid (fun h => fwdT_step hlt hI.out h)
      have hbad := hid (fun q h1 h2 => fwdB_bad (t := t) (i := k) (k := q) hlt h1 h2)
      have hrc := hrow.le
      have hrm := hrow.mx
      unfold maxLen at hrm
      have hrow := hid hrow
      clear hI
      generalize t[k] = l at *
      go_wp2_with fail
      go_loopw [4] (fun i wr => ∃ q : Nat, q ≤ l.length ∧ i = .int .i64 q ∧ Hid (fwdR l q) ∧ Kp W0 wr) (fun i _ => l.length - (intOf i).toNat)
      case atStart => exact ⟨0, Nat.zero_le _, rfl, fun k _ h => absurd h (by omega), hK⟩
      case round =>
        clear hK g0 g3
        obtain ⟨q, hq, rfl, hJ, hK⟩ := hrel
        by_cases hlt2 : q < l.length
        · obtain ⟨b, off2, u0, u1, u2, u3, v0, v1, v2, v3, rfl, hb, ⟨f0, f1, f2⟩, ⟨f3, f4, f5, f6⟩, ⟨f7, f8, f9, f10⟩, f11, ha, hbx⟩ := hrow.out.at_ q hlt2
          have hb2 := hb.lt
          have q0 : (0 : Int) ≤ q := by omega
          have q1 : (q : Int) < l.length := by omega
          have g0 := hK.1.size
          have g3 : b < wr.heap.size := by omega
          have g4 : w.heap.size < wr.heap.size := by omega
          obtain ⟨o0, o1, o2, o3⟩ := ha.ones
          obtain ⟨o4, o5, o6, o7⟩ := hbx.ones
          have s0 := fun ad W m => run_store (P := Tryz.prog) W ad u0 m o0
          have s1 := fun ad W m => run_store (P := Tryz.prog) W ad u1 m o1
          have s2 := fun ad W m => run_store (P := Tryz.prog) W ad u2 m o2
          have s3 := fun ad W m => run_store (P := Tryz.prog) W ad u3 m o3
          have s4 := fun ad W m => run_store (P := Tryz.prog) W ad v0 m o4
          have s5 := fun ad W m => run_store (P := Tryz.prog) W ad v1 m o5
          have s6 := fun ad W m => run_store (P := Tryz.prog) W ad v2 m o6
          have s7 := fun ad W m => run_store (P := Tryz.prog) W ad v3 m o7
          clear ha hbx o0 o1 o2 o3 o4 o5 o6 o7
          have hbI : Hid (backI l[q] q = ((l[q].op == 12 || l[q].op == 13) && decide (l[q].to ≤ q))) := rfl
          have hst := hid (fun h => fwdR_step hlt2 hJ.out h)
          have hbd := hid (fun h => hbad.out q hlt2 h)
          clear hJ
          generalize hx : backI l[q] q = bk at *
          generalize l[q].op = op at *
          generalize l[q].reg = rg at *
          generalize l[q].v = vv at *
          generalize l[q].to = dst at *
          clear hx
          have HK := hid (fun o => Kp.alloc hK o)
          cases h12 : (op == 12)
          · cases h13 : (op == 13)
            · have hbk : bk = false := by rw [hbI.out, h12, h13]; rfl
              have hst2 := hid (hst.out hbk)
              clear hbI hbk
              go_wp2_with fail
              go_roundw
              case rel => exact ⟨q + 1, by omega, by simp, hst2, HK.out _⟩
              case measure => simp [intOf]; omega
            · cases hd : decide (dst ≤ q)
              · have hbk : bk = false := by rw [hbI.out, h12, h13, hd]; rfl
                have hst2 := hid (hst.out hbk)
                clear hbI hbk
                go_wp2_with fail
                go_roundw
                case rel => exact ⟨q + 1, by omega, by simp, hst2, HK.out _⟩
                case measure => simp [intOf]; omega
              · have hbk : bk = true := by rw [hbI.out, h12, h13, hd]; rfl
                have hf := hid (hbd.out hbk)
                clear hbI hbk
                go_wp2_with fail
                go_ret
                exact ⟨ret_bool (by unfold forwardL; rw [hf.out]; rfl), Kp.fin HB.out (HK.out _)⟩
          · cases hd : decide (dst ≤ q)
            · have hbk : bk = false := by rw [hbI.out, h12, hd]; rfl
              have hst2 := hid (hst.out hbk)
              clear hbI hbk
              go_wp2_with fail
              go_roundw
              case rel => exact ⟨q + 1, by omega, by simp, hst2, HK.out _⟩
              case measure => simp [intOf]; omega
            · have hbk : bk = true := by rw [hbI.out, h12, hd]; rfl
              have hf := hid (hbd.out hbk)
              clear hbI hbk
              go_wp2_with fail
              go_ret
              exact ⟨ret_bool (by unfold forwardL; rw [hf.out]; rfl), Kp.fin HB.out (HK.out _)⟩
        · obtain rfl : q = l.length := by omega
          have hst2 := hid (hstep.out hJ.out)
          clear hJ
          go_wp2_with fail
          go_roundw
          case rel => exact ⟨k + 1, by omega, by simp, hst2, hK⟩
          case measure => simp [intOf]; omega
    · obtain rfl : k = t.length := by omega
      have hg := hid (fwdB_good hI.out)
      have hR := hid (refRight_any vars dom a t.length cap t wr (hK.ths Hin.out))
      have g4 : w.heap.size < wr.heap.size := by have := hK.1.size; omega
      clear hI
      go_wp2_with (first
        | (go_at_call 32
           with_reducible refine hR.out.mono ?_
           rintro e w2 ⟨rfl, hb2⟩)
        | fail)
      go_ret
      exact ⟨ret_bool (by unfold forwardL; rw [hg.out]; rfl), Kp.fin HB.out (hK.next hb2)⟩
end Go.Proofs.YtcgpobeidlimkaaGreatDoor
