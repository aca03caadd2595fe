/- The iterator over a text's tokens. -/
import Derived.RangeFuncNested
import Derived.RangeFuncBound
import Derived.RangeFuncCalls
import Derived.RangeFuncLeaves
import Derived.Shelf.Abstract
import Derived.Shelf.RegionOpen
import Derived.WalkKit
import Derived.OwnWalkIn
import Derived.TacticsInMore
import Derived.LoopNIn
import Derived.LoopIn
import Derived.ControlIn
import Derived.Test.YtogopcejapklgaaGreatDoorLexD
namespace Go.Proofs.YtogopcejapklgaaGreatDoor
open Go.RowKit Go.Shelf

attribute [local go_sem] Oper.semAt_some

/-- What the caller collects lies in box Bo: its row is of the worlds's own. -/
def OutIs (W : World) (Bo : Nat) (v : Value) : Prop := W.cell? ⟨Bo, 0, none⟩ = some v ∧ ∀ g, v.ownBlock = some g → g < W.heap.size
/-- Whatever is cells, but that box and its row, is kept. -/
def KpO (n₀ Bo : Nat) (W W' : World) : Prop := Below n₀ W W' ∧ ∀ v, OutIs W Bo v → ∃ v', OutIs W' Bo v' ∧ (v'.ownBlock = v.ownBlock ∨ ∃ g, v'.ownBlock = some g ∧ W.heap.size ≤ g) ∧
  ∀ k o, W.heap[k]? = some o → o.isCells = true → k ≠ Bo → v.ownBlock ≠ some k → W'.heap[k]? = some o

theorem kpO_t {n₀ Bo : Nat} {A B C : World} (h : KpO n₀ Bo A B) (k : KpO n₀ Bo B C) : KpO n₀ Bo A C := by
  refine ⟨h.1.trans k.1, fun v hv => ?_⟩
  obtain ⟨v1, h1, h2, h3⟩ := h.2 v hv
  obtain ⟨v2, k1, k2, k3⟩ := k.2 v1 h1
  refine ⟨v2, k1, ?_, fun i o hi ho hb hn => ?_⟩
  · rcases k2 with e | ⟨g, e, hg⟩
    · rw [e]; exact h2
    · exact .inr ⟨g, e, Nat.le_trans h.1.size hg⟩
  · refine k3 i o (h3 i o hi ho hb hn) ho hb ?_
    rcases h2 with e | ⟨g, e, hg⟩
    · rw [e]; exact hn
    · rw [e]
      intro e'
      have := (Array.getElem?_eq_some_iff.1 hi).1
      simp at e'
      omega

theorem cells_of_cell {W : World} {b o : Nat} {v : Value} (h : W.cell? ⟨b, o, none⟩ = some v) : ∃ ob, W.heap[b]? = some ob ∧ ob.isCells = true := by
  unfold World.cell? at h
  cases hx : W.heap[b]? with
  | none => simp [hx] at h
  | some ob =>
    refine ⟨ob, rfl, ?_⟩
    cases ob <;> simp [hx] at h ⊢ <;> rfl

theorem kpO_b {n₀ Bo : Nat} {w : World} (hn : n₀ ≤ w.heap.size) (W : World) (l : Nat) (o o' : Obj) (hl : w.heap.size ≤ l) (h : W.heap[l]? = some o) (hc : o.isCells = false) (hw : o.isWalk = false) : KpO n₀ Bo W (W.putObj l o') := by
  have hg := grownBy_putObj' W l o'
  refine ⟨belowK_b hn W l o o' hl h hc hw, fun v hv => ⟨v, ⟨?_, fun g e => Nat.lt_of_lt_of_le (hv.2 g e) hg.size⟩, .inl rfl, fun k ob hk ho _ _ => ?_⟩⟩
  · exact cell_kept hv.1 hg (fun r e => by cases e; exact ⟨o, h, hc⟩)
  · rw [hg.block k (Array.getElem?_eq_some_iff.1 hk).1 (fun e => by cases e; rw [h] at hk; cases hk; rw [hc] at ho; cases ho)]
    exact hk
theorem drop_blanks : ∀ l : List UInt8, Lib.trimLeftS l [32, 10] = l.drop (runP blankB l)
  | [] => rfl
  | c :: l => by
    have ih := drop_blanks l
    have hc : [32, 10].contains c = blankB c := by
      simp only [blankB, List.contains_cons, List.contains_nil, Bool.or_false]
    unfold Lib.trimLeftS at ih ⊢
    rw [List.dropWhile_cons]
    by_cases h : blankB c = true
    · rw [if_pos (by rw [hc]; exact h), runP_cons_pos h, List.drop_succ_cons]
      exact ih
    · rw [if_neg (by rw [hc]; exact h), runP_cons_neg (by simpa using h), List.drop_zero]

theorem trim_any (s : ByteArray) (w : World) :
    Calls Tryz.prog 44 #[.string s, .string ⟨#[32, 10]⟩] w fun e w' => e = .returned (strV (s.data.toList.drop (runP blankB s.data.toList))) ∧ Below w.heap.size w w' := by
  refine (Any.strings_TrimLeft_laid lays161 (by kernel_rfl) s ⟨#[32, 10]⟩ w (by decide) (ascii_of_all (by decide))).mono ?_
  rintro e w' ⟨rfl, hB⟩
  refine ⟨?_, hB⟩
  rw [drop_blanks]

/-- What has come is what a text's tokens are, or these and the place where there is none. -/
def Came (r : List Tok × Option Nat) (ys : List (Tok × Bool)) : Prop :=
  match r.2 with
  | none => ys = r.1.map (·, true)
  | some j => ∃ t : Tok, t.place = j ∧ ys = r.1.map (·, true) ++ [(t, false)]

theorem lexA_step (L : List UInt8) (k m : Nat) (hm : runP blankB (L.drop k) = m) :
    (L.drop (k + m) = [] → lexA L k = ([⟨0, [], 0, k + m⟩], none)) ∧ (L.drop (k + m) ≠ [] → headT (L.drop (k + m)) = none → lexA L k = ([], some (k + m))) ∧
    (∀ kk n v, headT (L.drop (k + m)) = some (kk, n, v) → lexA L k = (⟨kk, (L.drop (k + m)).take n, v, k + m⟩ :: (lexA L (k + m + n)).1, (lexA L (k + m + n)).2)) := by
  have hd : (L.drop k).drop m = L.drop (k + m) := by rw [List.drop_drop]
  refine ⟨fun h => ?_, fun hne h => ?_, fun kk n v h => ?_⟩
  · unfold lexA
    simp only [lexF, hm]
    rw [hd, h]
  · unfold lexA
    simp only [lexF, hm]
    rw [hd]
    cases hx : L.drop (k + m) with
    | nil => exact absurd hx hne
    | cons c r => rw [hx] at h; simp only [h]
  · have h1 := headT_len h
    have e : lexA L (k + m + n) = lexF L.length ((L.drop (k + m)).drop n) (k + m + n) := by
      unfold lexA
      rw [List.drop_drop]
      have hl : (L.drop (k + m)).length = L.length - (k + m) := by simp
      exact lexF_fuel _ _ _ _ (by simp; omega) (by simp; omega)
    rw [e]
    unfold lexA
    simp only [lexF, hm]
    rw [hd]
    cases hx : L.drop (k + m) with
    | nil => rw [hx] at h; simp [headT] at h
    | cons c r => rw [hx] at h; simp only [h]

theorem headT_kind {l : List UInt8} {k : Int} {n : Nat} {v : Int} (h : headT l = some (k, n, v)) : k ≠ 0 := by
  cases l with
  | nil => simp [headT] at h
  | cons c l =>
    simp only [headT] at h
    split at h
    · cases h; decide
    · split at h
      · split at h
        · cases h
        · cases h; decide
      · split at h
        · cases h; decide
        · split at h
          · cases h; decide
          · cases h

/-- What first says, and what has come with it. -/
theorem came_step {L : List UInt8} {k m : Nat} {ts : List Tok} {kd nn : Int} {t : List UInt8} (hm : runP blankB (L.drop k) = m) (hL : lexA L 0 = (ts ++ (lexA L k).1, (lexA L k).2))
    (hfo : firstOk (L.drop (k + m)) = true → kd = (firstT (L.drop (k + m))).kind ∧ t = (firstT (L.drop (k + m))).text ∧ nn = (firstT (L.drop (k + m))).n) :
    (firstOk (L.drop (k + m)) = false → Came (lexA L 0) (ts.map (·, true) ++ [(⟨kd, t, nn, k + m⟩, false)])) ∧
    (firstOk (L.drop (k + m)) = true → kd = 0 → Came (lexA L 0) (ts.map (·, true) ++ [(⟨kd, t, nn, k + m⟩, true)])) ∧
    (firstOk (L.drop (k + m)) = true → kd ≠ 0 → 1 ≤ t.length ∧ k + m + t.length ≤ L.length ∧ lexA L 0 = ((ts ++ [⟨kd, t, nn, k + m⟩]) ++ (lexA L (k + m + t.length)).1, (lexA L (k + m + t.length)).2)) := by
  obtain ⟨s1, s2, s3⟩ := lexA_step L k m hm
  cases hx : L.drop (k + m) with
  | nil =>
    rw [hx] at hfo
    obtain ⟨rfl, rfl, rfl⟩ := hfo rfl
    refine ⟨fun h => (by cases h), fun _ _ => ?_, fun _ h => absurd rfl h⟩
    rw [hL, s1 hx]
    simp [Came, firstT, headT]
  | cons c r =>
    rw [hx] at hfo s2 s3
    cases hh : headT (c :: r) with
    | none =>
      have hno : firstOk (c :: r) = false := by simp [firstOk, hh]
      rw [hno]
      refine ⟨fun _ => ?_, fun h => (by cases h), fun h => (by cases h)⟩
      rw [hL, s2 (by simp) hh]
      exact ⟨⟨kd, t, nn, k + m⟩, rfl, by simp⟩
    | some x =>
      obtain ⟨kk, n, v⟩ := x
      have hok : firstOk (c :: r) = true := by simp [firstOk, hh]
      obtain ⟨rfl, rfl, rfl⟩ := hfo hok
      have hft : firstT (c :: r) = ⟨kk, (c :: r).take n, v, 0⟩ := by simp [firstT, hh]
      rw [hok, hft]
      have hn := headT_len hh
      refine ⟨fun h => (by cases h), fun _ h => absurd h (headT_kind hh), fun _ _ => ?_⟩
      have hl : ((c :: r).take n).length = n := by rw [List.length_take]; omega
      have hl2 := congrArg List.length hx
      rw [List.length_drop] at hl2
      simp only [hl]
      refine ⟨hn.1, by omega, ?_⟩
      rw [hL, s3 kk n v hh]
      simp

theorem grown_of_below {a b : World} (h : Below a.heap.size a b) : a.grownBy b none := ⟨h.os, h.tape, h.output, h.size, fun k hk _ => h.block k hk⟩
theorem OutIs.below {a b : World} {Bo : Nat} {v : Value} (h : OutIs a Bo v) (hb : Below a.heap.size a b) : OutIs b Bo v :=
  ⟨(hb.cell (p := ⟨Bo, 0, none⟩) (World.block_lt_of_cell? _ _ h.1)).trans h.1, fun g e => Nat.lt_of_lt_of_le (h.2 g e) hb.size⟩
theorem TBox.kpO {A B : World} {n₀ Bo Bt : Nat} {v v0 v1 v2 v3 : Value} (h : TBox A Bt v0 v1 v2 v3) (hk : KpO n₀ Bo A B) (ho : OutIs A Bo v) (hb : Bt ≠ Bo) (hv : v.ownBlock ≠ some Bt) : TBox B Bt v0 v1 v2 v3 := by
  obtain ⟨v', _, _, h3⟩ := hk.2 v ho
  obtain ⟨o, h1, h2⟩ := cells_of_cell h.c0
  exact h.block hk.1.size ((h3 Bt o h1 h2 hb hv).trans h1.symm)

set_option maxRecDepth 100000 in
set_option maxHeartbeats 4000000 in
theorem tokens1_in (n : Nat) (hn : 1 ≤ n) (lo Bs Bo n₀ : Nat) (s : ByteArray) (hs : s.size ≤ 100000) (J Jx : List (Tok × Bool) → World → Prop) (hJ : ∀ p A B, J p A → A.grownBy B none → J p B)
    (hY : ∀ pre x W, J pre W → pre.length < s.size + 1 → YieldAt Fence.wide (n - 1) Tryz.prog lo #[tkV x.1, .bool x.2] W fun e W' =>
      (e = .returned (.bool true) ∧ J (pre ++ [x]) W' ∧ KpO n₀ Bo W W') ∨ (e = .returned (.bool false) ∧ Jx (pre ++ [x]) W'))
    (W : World) (hv : Vars W) (hn₀ : gTop ≤ n₀) (hBs : W.cell? ⟨Bs, 0, none⟩ = some (.string s)) (hne : Bs ≠ Bo) (hO : OutIs W Bo (.slice none 0 0)) (h0 : J [] W) :
    CallsIn Fence.wide n Tryz.prog 43 #[.func (.yield lo) #[] #[], .pointer (some ⟨Bs, 0, none⟩)] W fun e W' => (∃ v, e = .returned v) ∧
      ((∃ ys, Came (lexA s.data.toList 0) ys ∧ J ys W') ∨ (∃ pre, (Came (lexA s.data.toList 0) pre ∨ ∀ x ∈ pre, x.2 = true) ∧ Jx pre W')) := by
  refine callsIn_of_wp Tryz.func43 rfl trivial ?_ rfl
  simp only [Tryz.ntmps43, List.size_toArray, List.length_cons, List.length_nil, Nat.reduceAdd, Nat.reduceSub, Array.replicate_succ, Array.replicate_zero, List.push_toArray, List.append_toArray, List.nil_append, List.cons_append]
  gi_wp2
  gi_loopw [3] (fun i wr => ∃ (k : Nat) (ts : List Tok) (v : Value), k ≤ s.size ∧ i = .int .i64 k ∧ Hid (lexA s.data.toList 0 = (ts ++ (lexA s.data.toList k).1, (lexA s.data.toList k).2)) ∧ ts.length ≤ k ∧ J (ts.map (·, true)) wr ∧ Vars wr ∧
      wr.cell? ⟨Bs, 0, none⟩ = some (.string s) ∧ OutIs wr Bo v ∧ v.ownBlock ≠ some Bs)
    (fun i _ => s.size - (intOf i).toNat)
  case atStart => exact ⟨0, [], _, Nat.zero_le _, rfl, by simp [Hid], by simp, h0, hv, hBs, hO, by simp [Value.ownBlock]⟩
  case round =>
    obtain ⟨k, ts, v, hk, rfl, hL, htl, hJs, hvr, hc, hOr, hvo⟩ := hrel
    have k0 : (0 : Int) ≤ k := by omega
    have k1 : (k : Int) ≤ s.size := by omega
    have hdr : (s.extract k s.size).data.toList = s.data.toList.drop k := by
      rw [Lib.extract_data, List.take_of_length_le (by rw [List.length_drop, data_len]; omega)]
    obtain ⟨m, hm⟩ : ∃ m, runP blankB (s.data.toList.drop k) = m := ⟨_, rfl⟩
    have hmle : k + m ≤ s.size := by
      have := runP_le blankB (s.data.toList.drop k)
      rw [hm, List.length_drop, data_len] at this
      omega
    have hlen2 : ((⟨((s.data.toList.drop k).drop m).toArray⟩ : ByteArray).size : Int) = s.size - k - m := by
      have : (⟨((s.data.toList.drop k).drop m).toArray⟩ : ByteArray).size = ((s.data.toList.drop k).drop m).length := by rw [← data_len]
      rw [this, List.length_drop, List.length_drop, data_len]; omega
    have htr : ∀ w', Calls Tryz.prog 44 #[.string (s.extract k s.size), .string ⟨#[32, 10]⟩] w' fun e w'' => e = .returned (strV ((s.data.toList.drop k).drop m)) ∧ Below w'.heap.size w' w'' := fun w' => by
      have := trim_any (s.extract k s.size) w'
      rw [hdr, hm] at this
      exact this
    have hBslt : Bs < wr.heap.size := World.block_lt_of_cell? _ _ hc
    gi_wp2
    refine wpIn_wide.2 ?_
    go_region_held3 (Kp wr)
      (first | exact Kp.start _ | exact Kp.next (by assumption) hb1)
      (first
        | (go_at_call 44; (with_reducible refine (htr _).mono ?_); rintro e w1 ⟨rfl, hb1⟩)
        | fail)
    rename_i hKp
    have hwr : IntKind.i64.wrap (↑s.size - ↑(s.size - (k + m))) = ((k + m : Nat) : Int) := by
      rw [IntWalk.i64_in _ (by omega)]; omega
    rw [hwr]
    clear hwr hlen2 htr hdr hb1
    generalize hj : k + m = j at *
    have hj0 : (0 : Int) ≤ j := by omega
    have hj1 : (j : Int) ≤ s.size := by omega
    have hdr : (s.extract j s.size).data.toList = s.data.toList.drop j := by
      rw [Lib.extract_data, List.take_of_length_le (by rw [List.length_drop, data_len]; omega)]
    have hc1 : w1.cell? ⟨Bs, 0, none⟩ = some (.string s) := (hKp.2 _ _ hBslt).trans hc
    have hf := first_any (s.extract j s.size) w1 (by have := congrArg List.length hdr; rw [data_len, List.length_drop, data_len] at this; omega) (hvr.next hKp.1)
    rw [hdr] at hf
    clear hdr
    gi_wp2
    refine ⟨trivial, ?_⟩
    refine (callsIn_wide.2 hf).mono ?_
    rintro e w2 ⟨kd, t, nn, rfl, hfo, hB2⟩
    gi_wp2
    have tb := TBox.new w2 41 (.int .i64 kd) (.string { data := t.toArray }) (.int .i64 nn) (.int .i64 j)
    have hBW : Below wr.heap.size wr (w2.alloc (.cells #[.int .i64 kd, .string { data := t.toArray }, .int .i64 nn, .int .i64 j] 41)) := (hKp.1.trans (hB2.mono hKp.1.size)).alloc (by have := hKp.1.size; have := hB2.size; omega) _
    have hBt : wr.heap.size ≤ w2.heap.size := by have := hKp.1.size; have := hB2.size; omega
    generalize hW2 : World.alloc w2 _ = W2 at tb hBW ⊢
    generalize hBtt : w2.heap.size = Bt at tb hBt ⊢
    clear hW2 hBtt hB2 hKp hc1 hf
    have hJ2 := hJ _ _ _ hJs (grown_of_below hBW)
    have hO2 := hOr.below hBW
    have hc2 : W2.cell? ⟨Bs, 0, none⟩ = some (.string s) := (hBW.cell (p := ⟨Bs, 0, none⟩) hBslt).trans hc
    have hBo : Bo < wr.heap.size := World.block_lt_of_cell? _ _ hOr.1
    obtain ⟨B, hBB⟩ : ∃ B, firstOk (s.data.toList.drop j) = B := ⟨_, rfl⟩
    rw [hBB] at hfo ⊢
    obtain ⟨fn, tmps, assign, body, hy, hR⟩ := hY _ (⟨kd, t, nn, j⟩, B) W2 hJ2 (by rw [List.length_map]; omega)
    dsimp only [tkV, strV] at hy
    obtain ⟨q1, q2, q3⟩ := came_step (L := s.data.toList) (k := k) (m := m) (ts := ts) (kd := kd) (t := t) (nn := nn) hm hL.out (by rw [hj, hBB]; exact hfo)
    rw [hj, hBB] at q1 q2 q3
    have hpre : Hid (∀ x ∈ ts.map (fun x : Tok => (x, true)), x.2 = true) := by
      show ∀ x ∈ ts.map (fun x : Tok => (x, true)), x.2 = true
      intro x hx
      obtain ⟨y, _, rfl⟩ := List.mem_map.1 hx
      rfl
    rw [hy]
    gi_wp2
    refine hR.mono ?_
    clear hR hy
    rintro e W3 (⟨rfl, hJ3, hk3⟩ | ⟨rfl, hJx3⟩)
    · cases B with
      | false =>
        have hq := hid (q1 rfl)
        clear q1 q2 q3 hfo
        gi_wp2
        refine bodyPost_ret (results_none rfl _ _ _) rfl ?_
        exact ⟨⟨_, rfl⟩, .inl ⟨_, hq.out, hJ3⟩⟩
      | true =>
        have tb3 := tb.kpO hk3 hO2 (by omega) (fun e => by have := hOr.2 _ e; omega)
        have c0 := tb3.c0
        have c1 := tb3.c1
        obtain ⟨v3, hO3, hvv, hkeep⟩ := hk3.2 v hO2
        obtain ⟨os, ho1, ho2⟩ := cells_of_cell hc2
        have hs3 := hkeep Bs os ho1 ho2 hne hvo
        have hc3 : W3.cell? ⟨Bs, 0, none⟩ = some (.string s) := (World.cell?_of_block (w := W2) (a := ⟨Bs, 0, none⟩) (hs3.trans ho1.symm)).trans hc2
        by_cases h0 : kd = 0
        · have hq := hid (q2 rfl h0)
          subst h0
          clear q1 q2 q3 hfo
          gi_wp2
          refine bodyPost_ret (results_none rfl _ _ _) rfl ?_
          exact ⟨⟨_, rfl⟩, .inl ⟨_, hq.out, hJ3⟩⟩
        · obtain ⟨ht1, ht2, ht3⟩ := q3 rfl h0
          rw [data_len] at ht2
          have ht3 := hid ht3
          have hsz : ((⟨t.toArray⟩ : ByteArray).size : Int) = t.length := by rw [← data_len]
          clear q1 q2 q3 hfo
          gi_wp2
          refine ⟨⟨j + t.length, ts ++ [⟨kd, t, nn, j⟩], v3, ht2, by simp, ht3, by rw [List.length_append, List.length_singleton]; omega, by simpa using hJ3, (hvr.next hBW).below hk3.1 hn₀, hc3, hO3, ?_⟩, ?_⟩
          · rcases hvv with e | ⟨g, e, hg⟩
            · rw [e]; exact hvo
            · rw [e]
              intro e'
              have := World.block_lt_of_cell? _ _ hc2
              simp at e' this
              omega
          · simp [intOf]
            omega
    · have hq : Hid (Came (lexA s.data.toList 0) (ts.map (·, true) ++ [(⟨kd, t, nn, j⟩, B)]) ∨ ∀ x ∈ ts.map (fun x : Tok => (x, true)) ++ [(⟨kd, t, nn, j⟩, B)], x.2 = true) := by
        cases B with
        | false => exact .inl (q1 rfl)
        | true =>
          refine .inr fun x hx => ?_
          rcases List.mem_append.1 hx with hx | hx
          · exact hpre.out x hx
          · simp at hx; rw [hx]
      clear q1 q2 q3 hfo
      gi_wp2
      refine bodyPost_ret (results_none rfl _ _ _) rfl ?_
      exact ⟨⟨_, rfl⟩, .inr ⟨_, hq.out, hJx3⟩⟩
end Go.Proofs.YtogopcejapklgaaGreatDoor
