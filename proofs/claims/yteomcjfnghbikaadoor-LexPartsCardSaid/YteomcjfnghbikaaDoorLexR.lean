/- The document's Lex. -/
import Derived.Test.YteomcjfnghbikaaDoorLexL
namespace Go.Proofs.YteomcjfnghbikaaDoor
open Go.RowKit

theorem tko_later {w w' : World} {B : Nat} {v : Value} {L : List Tok} (h : TkO w B v L) (hb : Below w.heap.size w w') : TkO w' B v L := by
  refine World.ownsRow.kept h (grown_of_below hb) ?_
  rcases hv : v.ownBlock with _ | k
  · exact .inl rfl
  · exact .inr (by simp)
theorem tko_app {w : World} {B : Nat} {v : Value} {ts : List Tok} {x : Tok} (h : w.ownsRow B 32 4 v (ts.length + 1) (ts.flatMap tkC ++ tkC x)) : TkO w B v (ts ++ [x]) := by
  unfold TkO
  rw [List.length_append, List.length_singleton, List.flatMap_append]
  simpa using h
theorem tko_nil {w : World} {B : Nat} : TkO w B (.slice none 0 0) [] := World.ownsRow_nil _ _ _ _

theorem kp_app {w w1 w2 : World} {v : Value} {ts : List Tok} (hK : Kp w w1) (hO : TkO w1 w.heap.size v ts) {tmp : Obj} (hg : (w1.alloc tmp).grownBy w2 v.ownBlock) : Kp w w2 :=
  Kp.grown (hK.alloc tmp) hg (fun b hb => (hO.lt b hb).1)

theorem tkC_of (k n : Int) (p : Nat) (b : ByteArray) : [Value.int .i64 k, .string b, .int .i64 n, .int .i64 p] = tkC ⟨k, b.data.toList, n, p⟩ := by simp [tkC]
theorem one_tk (k n p : Int) (b : ByteArray) : ∀ u ∈ [Value.int .i64 k, .string b, .int .i64 n, .int .i64 p], u.oneCell' = true := by
  intro u hu
  simp at hu
  rcases hu with rfl | rfl | rfl | rfl <;> rfl
theorem ext_mid (s : ByteArray) (k n : Nat) : (s.extract k (k + n)).data.toList = (s.data.toList.drop k).take n := by
  rw [Lib.extract_data]
  congr 1
  omega
theorem src_new' {w : World} {T : TypeId} {size m n : Nat} {news : List Value} (hn : n = w.heap.size) (hl : news.length = m * size) : SrcAt (w.alloc (.cells news.toArray T)) size (some ⟨n, 0, none⟩) m news := by subst hn; exact src_new hl

theorem TBox.put2 {w : World} {B : Nat} {v0 v1 v2 v3 : Value} (h : TBox w B v0 v1 v2 v3) (u : Value) : TBox (w.setCell ⟨B, 2, none⟩ u).drew B v0 v1 u v3 := by
  obtain ⟨h1, c0, c1, c2, c3, f0⟩ := h
  exact ⟨by simpa [World.setCell] using h1, by go_simp, by go_simp, by go_simp, by go_simp, fun o => by go_simp⟩
theorem sgnL_head (c : UInt8) (r : List UInt8) (h1 : ¬ letterB c = true) (h2 : ¬ digitB c = true) : (sgnL (c :: r) = 0 → headT (c :: r) = none) ∧ (sgnL (c :: r) ≠ 0 → headT (c :: r) = some (3, sgnL (c :: r), 0)) := by
  unfold sgnL
  simp only [headT]
  rw [if_neg h1, if_neg h2]
  by_cases ht : two (c :: r) = true
  · rw [if_pos ht, if_pos ht]
    exact ⟨fun h => (by cases h), fun _ => rfl⟩
  · rw [if_neg ht, if_neg ht]
    by_cases hs : signB c = true
    · rw [if_pos hs, if_pos hs]
      exact ⟨fun h => (by cases h), fun _ => rfl⟩
    · rw [if_neg hs, if_neg hs]
      exact ⟨fun _ => rfl, fun h => absurd rfl h⟩

set_option maxRecDepth 100000 in
set_option maxHeartbeats 8000000 in
theorem lex_ref (s : ByteArray) (w : World) : Calls Tryd.prog 15 #[.string s] w (LexPost s.data.toList w) := by
  by_cases hlong : 10000 < s.size
  · have hfin : Hid (∀ w', Below w.heap.size w w' → LexPost s.data.toList w (.returned (.tuple #[.slice none 0 0, .int .i64 2, .int .i64 0])) w') := fun w' hB => by
      have : lexR s.data.toList = ([], 2, 0) := by unfold lexR; rw [if_pos (by rw [data_len]; exact hlong)]
      unfold LexPost
      rw [this]
      exact ⟨none, 0, rfl, TkIn.nil_, hB⟩
    have hl' : (10000 : Int) < s.size := by omega
    clear hlong
    go_enter Tryd.func15, Tryd.ntmps15
    go_wp2_with fail
    go_ret3
    exact hfin.out _ (Below.refl _ _)
  · have hs : s.size ≤ 10000 := by omega
    have hs2 : decide ((10000 : Int) < s.size) = false := decide_eq_false (by omega)
    have hs3 : ¬ (10000 : Int) < s.size := by omega
    have hl10 : Hid (¬ 10000 < s.data.toList.length) := hlong
    clear hlong
    go_enter Tryd.func15, Tryd.ntmps15
    go_wp2_with fail
    go_loopw [5, 6] (fun o i wr => ∃ (k : Nat) (ts : List Tok), k ≤ s.size ∧ i = .int .i64 k ∧ Hid (lexA s.data.toList 0 = (ts ++ (lexA s.data.toList k).1, (lexA s.data.toList k).2)) ∧ ts.length ≤ k ∧ Kp w wr ∧ Hid (TkO wr w.heap.size o ts))
      (fun _ i _ => s.size - (intOf i).toNat)
    case atStart => exact ⟨0, [], Nat.zero_le _, rfl, by simp [Hid], by simp, Kp.refl _, tko_nil⟩
    case round =>
      rename World => wo
      obtain ⟨k, ts, hk, rfl, hL, htl, hK, hO⟩ := hrel
      obtain ⟨a1, cp, rfl, _⟩ := TkO.in_ hO.out
      by_cases hlt : k < s.size
      · have k0 : (0 : Int) ≤ k := by omega
        have k1 : (k : Int) < s.size := by omega
        have k2 : (k : Int) ≤ s.size := by omega
        have hlt' : k < s.data.toList.length := hlt
        have hby : s.data.toList[k] = s[k] := rfl
        by_cases hbl : blankB s[k] = true
        · have hL2 := hL.out
          rw [lexA_blank _ k hlt' hbl] at hL2
          have hL2 := hid hL2
          have hor : ((s[k].toNat : Int) == 32) = true ∨ (((s[k].toNat : Int) == 32) = false ∧ ((s[k].toNat : Int) == 10) = true) := by
            have : s[k] = 32 ∨ s[k] = 10 := by simpa [blankB] using hbl
            rcases this with e | e
            · exact .inl (by rw [e]; rfl)
            · exact .inr (by rw [e]; exact ⟨rfl, rfl⟩)
          clear hL hbl
          rcases hor with h1 | ⟨h1, h2⟩
          all_goals
            go_wp2_with fail
            go_roundw
            case rel => exact ⟨k + 1, ts, by omega, by simp, hL2, by omega, hK, hO⟩
            case measure => simp [intOf]; omega
        · have hbl' : blankB s.data.toList[k] = false := by rw [hby]; simpa using hbl
          have hb32 : ((s[k].toNat : Int) == 32) = false := by
            have : ¬ s[k] = 32 := fun e => hbl (by rw [e]; rfl)
            have : ¬ (s[k].toNat : Int) = 32 := fun e => this (UInt8.toNat_inj.1 (by show s[k].toNat = 32; omega))
            simpa using this
          have hb10 : ((s[k].toNat : Int) == 10) = false := by
            have : ¬ s[k] = 10 := fun e => hbl (by rw [e]; rfl)
            have : ¬ (s[k].toNat : Int) = 10 := fun e => this (UInt8.toNat_inj.1 (by show s[k].toNat = 10; omega))
            simpa using this
          have hd := drop_byte s k hlt
          have hsx : (s.extract k s.size).data.toList = s.data.toList.drop k := by
            rw [Lib.extract_data, List.take_of_length_le (by rw [List.length_drop, data_len]; exact Nat.le_refl _)]
          have hx := congrArg List.length hsx
          rw [data_len, List.length_drop, data_len] at hx
          have hx1 : 1 ≤ (s.extract k s.size).size := by omega
          have hx2 : (s.extract k s.size).size ≤ 100000 := by omega
          have hsg := fun w => sign_ref (s.extract k s.size) w hx1 hx2
          rw [hsx] at hsg
          have hle := fun w => letterR_any s[k] w
          have hdi := fun w => digitR_any s[k] w
          have tb0 := TBox.new wo 32 (.int .i64 3) (.string { data := #[] }) (.int .i64 0) (.int .i64 k)
          have hB0 : Below wo.heap.size wo (wo.alloc (.cells #[.int .i64 3, .string { data := #[] }, .int .i64 0, .int .i64 k] 32)) := (Below.refl _ wo).alloc (Nat.le_refl _) _
          by_cases hLt : letterB s[k] = true
          · have hT : headT (s.data.toList.drop k) = some (1, runP partB (s.data.toList.drop k), 0) := by
              rw [hd]
              simp only [headT]
              rw [if_pos hLt]
            have hDf : digitB s[k] = false := by
              have h1 : 97 ≤ s[k].toNat ∧ s[k].toNat ≤ 122 := by simpa [letterB] using hLt
              unfold digitB
              rw [decide_eq_false (show ¬ s[k].toNat ≤ 57 by omega), Bool.and_false]
            simp only [hLt] at hle
            simp only [hDf] at hdi
            have hrun := fun w => refRun_part (s.extract k s.size) w hx2
            rw [hsx] at hrun
            have hst := lexA_some s.data.toList k hlt' hbl' hT
            have hlen := headT_len hT
            rw [List.length_drop, data_len] at hlen
            generalize hn : runP partB (s.data.toList.drop k) = n at hT hrun hst hlen
            have hL2 := hL.out
            rw [hst, ← ext_mid] at hL2
            have hn0 : (1 : Int) ≤ n := by omega
            have hkn : (k : Int) + n ≤ s.size := by omega
            have hnz : ((n : Int) == 0) = false := by
              have : ¬ (n : Int) = 0 := by omega
              simpa using this
            have hn1 : n ≤ s.size := by omega
            have hL2 : Hid (lexA s.data.toList 0 = ((ts ++ [⟨1, (s.extract k (k + n)).data.toList, 0, k⟩]) ++ (lexA s.data.toList (k + n)).1, (lexA s.data.toList (k + n)).2)) := by
              show _ = _
              rw [hL2]; simp
            have hb100 : ts.length + 1 ≤ 100000 := by omega
            have hkn2 : k + n ≤ s.size := by omega
            have hn1' : 1 ≤ n := by omega
            have Hlen := hid hlen
            clear hL hbl hbl' hT hd hsx hst hn hby hlen hx
            go_wp2_with (first
              | (go_at_call 26; refine (hsg _).mono ?_; rintro e w1 ⟨rfl, hb1⟩
                 have tb1 := tb0.below hb1 (by simp)
                 have c0 := tb1.c0
                 have c1 := tb1.c1
                 have c2 := tb1.c2
                 have c3 := tb1.c3
                 have f0 := tb1.f0
                 have hBX := ((hB0.trans (hb1.mono (by simp))).setCell (p := ⟨wo.heap.size, 0, none⟩) (Nat.le_refl _) (.int .i64 1)).setCell (p := ⟨wo.heap.size, 1, none⟩) (Nat.le_refl _) (.string (s.extract k (k + n)))
                 have hTX := tko_later hO.out hBX
                 have hKX := hK.next hBX)
              | (go_at_call 27; refine (hle _).mono ?_; rintro e w2 ⟨rfl, rfl⟩)
              | (go_at_call 29; refine (hdi _).mono ?_; rintro e w2 ⟨rfl, rfl⟩)
              | (go_at_call 28; refine (hrun _).mono ?_; rintro e w2 ⟨rfl, rfl⟩)
              | (at_builtin
                 refine list_tk (base := w.heap.size) (.tmp 96) (.tmp 98) (.slice a1 ts.length cp) ts.length (ts.flatMap tkC) 1 [.int .i64 1, .string (s.extract k (k + n)), .int .i64 0, .int .i64 k] ?_ ?_ ?_ ?_ ?_ ?_ ?_ ?_ ?_
                 (focus rfl); (focus rfl); (focus rfl); (focus exact World.ownsRow.alloc hTX _); (focus exact ⟨_, _, rfl, src_new' (by simp) rfl⟩); (focus exact one_tk _ _ _ _); (focus exact hb100); (focus (have := hKX.1.size; simp at this ⊢; omega))
                 intro v2 w2 hown2 hg2 hat2
                 rw [tkC_of] at hown2
                 have hO2 := hid (tko_app hown2)
                 have hK2 := kp_app hKX hTX hg2
                 obtain ⟨a2, cp2, rfl, _⟩ := TkO.in_ hO2.out)
              | fail)
            go_roundw
            case rel => exact ⟨k + n, _, hkn2, by simp, hL2, by rw [List.length_append, List.length_singleton]; omega, hK2, by rwa [List.length_append, List.length_singleton] at hO2⟩
            case measure => simp [intOf]; omega
          · have hLf : letterB s[k] = false := by simpa using hLt
            simp only [hLf] at hle
            by_cases hDt : digitB s[k] = true
            · simp only [hDt] at hdi
              have hrun := fun w => refRun_digit (s.extract k s.size) w hx2
              rw [hsx] at hrun
              have hT : headT (s.data.toList.drop k) = if 6 < runP digitB (s.data.toList.drop k) ∨ 1 < runP digitB (s.data.toList.drop k) ∧ s[k] = 48 then none else some (2, runP digitB (s.data.toList.drop k), numL ((s.data.toList.drop k).take (runP digitB (s.data.toList.drop k)))) := by
                rw [hd]
                simp only [headT]
                rw [if_neg hLt, if_pos hDt]
              have hall := run_digits (s.data.toList.drop k)
              have hnle := runP_le digitB (s.data.toList.drop k)
              rw [List.length_drop, data_len] at hnle
              have hnpos : 1 ≤ runP digitB (s.data.toList.drop k) := by rw [hd, runP_cons_pos hDt]; omega
              generalize hn : runP digitB (s.data.toList.drop k) = n at hT hrun hall hnle hnpos
              obtain ⟨dk, hdk⟩ : ∃ dk, s.data.toList.drop k = dk := ⟨_, rfl⟩
              have hst0 := lexA_none s.data.toList k hlt' hbl'
              have hst1 := fun (v : Int) => lexA_some s.data.toList k hlt' hbl' (k := 2) (n := n) (v := v)
              have hbyte : ∀ j, j < n → ∃ h : k + j < s.size, dk[j]? = some s[k + j] ∧ digitB s[k + j] = true := by
                intro j hj
                have h : k + j < s.size := by omega
                have e : dk[j]? = some s[k + j] := by
                  rw [← hdk, List.getElem?_drop, List.getElem?_eq_getElem (by rw [data_len]; exact h)]
                  rfl
                refine ⟨h, e, hall _ ?_⟩
                rw [hdk]
                exact List.mem_of_getElem? (i := j) (by rw [List.getElem?_take_of_lt hj]; exact e)
              have Hall := hid hall
              have HT := hid hT
              have Hst0 := hid hst0
              have Hst1 := hid hst1
              have Hbyte := hid hbyte
              have Hnle := hid hnle
              have HL := hid hL
              have Hdk := hid hdk
              have Hd := hid hd
              clear hall hT hst0 hst1 hbyte hnle hbl hbl' hd hsx hn hby hx hL hdk
              have n1 : (1 : Int) ≤ n := by omega
              go_wp2_with (first
                | (go_at_call 26; refine (hsg _).mono ?_; rintro e w1 ⟨rfl, hb1⟩
                   have tb1 := tb0.below hb1 (by simp)
                   have c0 := tb1.c0
                   have c1 := tb1.c1
                   have c2 := tb1.c2
                   have c3 := tb1.c3
                   have f0 := tb1.f0
                   have hBX := (hB0.trans (hb1.mono (by simp))).setCell (p := ⟨wo.heap.size, 0, none⟩) (Nat.le_refl _) (.int .i64 2))
                | (go_at_call 27; refine (hle _).mono ?_; rintro e w2 ⟨rfl, rfl⟩)
                | (go_at_call 29; refine (hdi _).mono ?_; rintro e w2 ⟨rfl, rfl⟩)
                | (go_at_call 28; refine (hrun _).mono ?_; rintro e w2 ⟨rfl, rfl⟩)
                | fail)
              have tbX : TBox (w1.setCell ⟨wo.heap.size, 0, none⟩ (.int .i64 2)) wo.heap.size (.int .i64 2) (.string { data := #[] }) (.int .i64 0) (.int .i64 k) := ⟨by have := tb1.lt; simpa [World.setCell] using this, by go_simp, by go_simp, by go_simp, by go_simp, fun o => by go_simp⟩
              generalize World.setCell w1 _ _ = WX at hBX tbX ⊢
              clear hb1 tb1 c0 c1 c2 c3 f0 hle hdi hrun hsg tb0 hB0
              go_loopw [9] (fun jv wj => ∃ j : Nat, j ≤ n ∧ (n < 7 ∨ j = 0) ∧ jv = .int .i64 j ∧ Below wo.heap.size wo wj ∧ TBox wj wo.heap.size (.int .i64 2) (.string { data := #[] }) (.int .i64 (numL (dk.take j))) (.int .i64 k)) (fun jv _ => n - (intOf jv).toNat)
              case atStart => exact ⟨0, Nat.zero_le _, .inr rfl, rfl, hBX, by simpa [numL] using tbX⟩
              case round =>
                obtain ⟨j, hjn, hj7, rfl, hBj, tbj⟩ := hrel
                have j0 : (0 : Int) ≤ j := by omega
                have c0 := tbj.c0
                have c1 := tbj.c1
                have c2 := tbj.c2
                have c3 := tbj.c3
                have f0 := tbj.f0
                by_cases hgo : j < n ∧ n < 7
                · obtain ⟨hb1, hb2, hb3⟩ := Hbyte.out j hgo.1
                  have d1 : decide ((j : Int) < n) = true := decide_eq_true (by omega)
                  have d2 : decide ((n : Int) < 7) = true := decide_eq_true (by omega)
                  have d1' : (j : Int) < n := by omega
                  have d2' : (n : Int) < 7 := by omega
                  obtain ⟨hlo, hhi⟩ := digit_bounds hb3
                  have hsn : numL (dk.take (j + 1)) = 10 * numL (dk.take j) + ((s[k + j].toNat : Int) - 48) := by
                    have : dk.take (j + 1) = dk.take j ++ [s[k + j]] := by
                      rw [List.take_add_one, hb2]
                      rfl
                    rw [this, numL_snoc]
                  have hN := numL_numN (dk.take j) (fun c hc => Hall.out c (by rw [Hdk.out]; exact (List.take_subset_take_left dk (by omega : j ≤ n)) hc))
                  have hNlt := numN_lt (dk.take j) (fun c hc => Hall.out c (by rw [Hdk.out]; exact (List.take_subset_take_left dk (by omega : j ≤ n)) hc))
                  have hlj : (dk.take j).length ≤ 6 := by rw [List.length_take]; omega
                  have hp6 : 10 ^ (dk.take j).length ≤ 10 ^ 6 := Nat.pow_le_pow_right (by omega) hlj
                  generalize numL (dk.take j) = N at *
                  have N0 : 0 ≤ N := by omega
                  have N1 : N ≤ 1000000 := by omega
                  have Hsn := hid hsn
                  clear hsn hN hNlt hlj hp6
                  have kj : ((k : Int) + (j : Int)).toNat = k + j := by omega
                  have kj0 : (0 : Int) ≤ (k : Int) + j := by omega
                  have kj1 : (k : Int) + j < s.size := by omega
                  have b0 : (48 : Int) ≤ s[k + j].toNat := by omega
                  have b1 : (s[k + j].toNat : Int) ≤ 57 := by omega
                  have hw1 : IntKind.i64.wrap (10 * N) = 10 * N := IntWalk.i64_in _ (by omega)
                  have hw2 : IntKind.u8.wrap ((s[k + j].toNat : Int) - 48) = (s[k + j].toNat : Int) - 48 := by
                    exact IntWalk.u8_in _ ⟨by omega, by omega⟩
                  have hw3 : IntKind.i64.wrap (10 * N + ((s[k + j].toNat : Int) - 48)) = 10 * N + ((s[k + j].toNat : Int) - 48) := IntWalk.i64_in _ (by omega)
                  have hw4 : IntKind.i64.wrap ((k : Int) + j) = (k : Int) + j := IntWalk.i64_in _ (by omega)
                  have h7 := hgo.2
                  have hj1 := hgo.1
                  clear hgo hb2 hb3 hlo hhi
                  go_wp2_with fail
                  go_region
                  go_wp2_with fail
                  exact ⟨⟨j + 1, hj1, .inl h7, by simp, (hBj.setCell (p := ⟨wo.heap.size, 2, none⟩) (Nat.le_refl _) _).drew, by rw [Hsn.out]; exact tbj.put2 _⟩, by simp [intOf]; omega⟩
                · have hKX0 := hK.next hBj
                  have hx48 : s[k] = 48 ↔ ((s[k].toNat : Int) == 48) = true := by
                    constructor
                    · intro e; rw [e]; rfl
                    · intro e
                      have e : (s[k].toNat : Int) = 48 := by simpa using e
                      exact UInt8.toNat_inj.1 (by show s[k].toNat = 48; omega)
                  by_cases h7 : n < 7
                  · obtain rfl : j = n := by omega
                    have e1 : decide ((j : Int) < j) = false := decide_eq_false (by omega)
                    have e2 : decide ((j : Int) < 7) = true := decide_eq_true (by omega)
                    have e4 : decide ((6 : Int) < j) = false := decide_eq_false (by omega)
                    have hnz : ((j : Int) == 0) = false := by
                      have : ¬ (j : Int) = 0 := by omega
                      simpa using this
                    by_cases hbad : 1 < j ∧ s[k] = 48
                    · have hT := HT.out
                      rw [if_pos (.inr hbad)] at hT
                      have hfin : Hid (lexR s.data.toList = ([], 20, (k : Int))) := by
                        show _ = _
                        unfold lexR
                        rw [if_neg hl10.out, HL.out, Hst0.out hT]
                      have e3 : decide ((1 : Int) < j) = true := decide_eq_true (by omega)
                      have e5 := hx48.1 hbad.2
                      clear hx48 hbad hT hgo hjn
                      go_wp2_with fail
                      go_ret3
                      unfold LexPost
                      rw [hfin.out]
                      exact ⟨none, 0, rfl, TkIn.nil_, hKX0.1⟩
                    · have hT := HT.out
                      rw [if_neg (by intro h; rcases h with h | h; omega; exact hbad h)] at hT
                      have hst := Hst1.out _ hT
                      have hlen := headT_len hT
                      rw [List.length_drop, data_len] at hlen
                      have hL2 := HL.out
                      have hNN : numL ((s.data.toList.drop k).take j) = numL (dk.take j) := by rw [Hdk.out]
                      rw [hst, hNN, ← ext_mid] at hL2
                      generalize numL (dk.take j) = N at *
                      have hL2 : Hid (lexA s.data.toList 0 = ((ts ++ [⟨2, (s.extract k (k + j)).data.toList, N, k⟩]) ++ (lexA s.data.toList (k + j)).1, (lexA s.data.toList (k + j)).2)) := by
                        show _ = _
                        rw [hL2]; simp
                      have hkn : (k : Int) + j ≤ s.size := by omega
                      have hb100 : ts.length + 1 ≤ 100000 := by omega
                      have hkn2 : k + j ≤ s.size := by omega
                      have Hlen := hid hlen
                      have hBX2 := hBj.setCell (p := ⟨wo.heap.size, 1, none⟩) (Nat.le_refl _) (.string (s.extract k (k + j)))
                      have hTX := tko_later hO.out hBX2
                      have hKX := hK.next hBX2
                      have hor : decide ((1 : Int) < j) = false ∨ (decide ((1 : Int) < j) = true ∧ ((s[k].toNat : Int) == 48) = false) := by
                        by_cases h1 : 1 < j
                        · refine .inr ⟨decide_eq_true (by omega), ?_⟩
                          cases hc : ((s[k].toNat : Int) == 48) with
                          | false => rfl
                          | true => exact absurd ⟨h1, hx48.2 hc⟩ hbad
                        · exact .inl (decide_eq_false (by omega))
                      clear hx48 hbad hT hgo hst hNN hlen hjn
                      rcases hor with e3 | ⟨e3, e5⟩
                      all_goals
                        go_wp2_with (first
                          | (at_builtin
                             refine list_tk (base := w.heap.size) (.tmp 96) (.tmp 98) (.slice a1 ts.length cp) ts.length (ts.flatMap tkC) 1 [.int .i64 2, .string (s.extract k (k + j)), .int .i64 N, .int .i64 k] ?_ ?_ ?_ ?_ ?_ ?_ ?_ ?_ ?_
                             (focus rfl); (focus rfl); (focus rfl); (focus exact World.ownsRow.alloc hTX _); (focus exact ⟨_, _, rfl, src_new' (by simp) rfl⟩); (focus exact one_tk _ _ _ _); (focus exact hb100); (focus (have := hKX.1.size; simp at this ⊢; omega))
                             intro v2 w2 hown2 hg2 hat2
                             rw [tkC_of] at hown2
                             have hO2 := hid (tko_app hown2)
                             have hK2 := kp_app hKX hTX hg2
                             obtain ⟨a2, cp2, rfl, _⟩ := TkO.in_ hO2.out)
                          | fail)
                        go_roundw
                        case rel => exact ⟨k + j, _, hkn2, by simp, hL2, by rw [List.length_append, List.length_singleton]; omega, hK2, by rwa [List.length_append, List.length_singleton] at hO2⟩
                        case measure => simp [intOf]; omega
                  · obtain rfl : j = 0 := by omega
                    have hT := HT.out
                    rw [if_pos (.inl (by omega))] at hT
                    have hfin : Hid (lexR s.data.toList = ([], 20, (k : Int))) := by
                      show _ = _
                      unfold lexR
                      rw [if_neg hl10.out, HL.out, Hst0.out hT]
                    have e1 : decide ((0 : Int) < n) = true := decide_eq_true (by omega)
                    have e1' : (0 : Int) < n := by omega
                    have e2 : decide ((n : Int) < 7) = false := decide_eq_false (by omega)
                    have e3 : decide ((1 : Int) < n) = true := decide_eq_true (by omega)
                    have e4 : decide ((6 : Int) < n) = true := decide_eq_true (by omega)
                    clear hT hgo hx48
                    cases e5 : ((s[k].toNat : Int) == 48)
                    all_goals
                      go_wp2_with fail
                      go_ret3
                      unfold LexPost
                      rw [hfin.out]
                      exact ⟨none, 0, rfl, TkIn.nil_, hKX0.1⟩
            · have hDf : digitB s[k] = false := by simpa using hDt
              simp only [hDf] at hdi
              obtain ⟨hg0, hg1⟩ := sgnL_head s[k] (s.data.toList.drop (k + 1)) hLt hDt
              rw [← hd] at hg0 hg1
              generalize hn : sgnL (s.data.toList.drop k) = n at hsg hg0 hg1
              by_cases hn0 : n = 0
              · have hT := hg0 hn0
                have hst := lexA_none s.data.toList k hlt' hbl' hT
                have hfin : Hid (lexR s.data.toList = ([], 20, (k : Int))) := by
                  show _ = _
                  unfold lexR
                  rw [if_neg hl10.out, hL.out, hst]
                subst hn0
                clear hL hbl hbl' hT hd hsx hst hn hby hx hg0 hg1
                go_wp2_with (first
                  | (go_at_call 26; refine (hsg _).mono ?_; rintro e w1 ⟨rfl, hb1⟩
                     have tb1 := tb0.below hb1 (by simp)
                     have c0 := tb1.c0
                     have c1 := tb1.c1
                     have c2 := tb1.c2
                     have c3 := tb1.c3
                     have f0 := tb1.f0
                     have hBX := (hB0.trans (hb1.mono (by simp)))
                     have hKX := hK.next hBX)
                  | (go_at_call 27; refine (hle _).mono ?_; rintro e w2 ⟨rfl, rfl⟩)
                  | (go_at_call 29; refine (hdi _).mono ?_; rintro e w2 ⟨rfl, rfl⟩)
                  | fail)
                go_ret3
                unfold LexPost
                rw [hfin.out]
                exact ⟨none, 0, rfl, TkIn.nil_, hKX.1⟩
              · have hT := hg1 hn0
                have hst := lexA_some s.data.toList k hlt' hbl' hT
                have hlen := headT_len hT
                rw [List.length_drop, data_len] at hlen
                have hL2 := hL.out
                rw [hst, ← ext_mid] at hL2
                have hkn : (k : Int) + n ≤ s.size := by omega
                have hn1 : (1 : Int) ≤ n := by omega
                have hnz : ((n : Int) == 0) = false := by
                  have : ¬ (n : Int) = 0 := by omega
                  simpa using this
                have hL2 : Hid (lexA s.data.toList 0 = ((ts ++ [⟨3, (s.extract k (k + n)).data.toList, 0, k⟩]) ++ (lexA s.data.toList (k + n)).1, (lexA s.data.toList (k + n)).2)) := by
                  show _ = _
                  rw [hL2]; simp
                have hb100 : ts.length + 1 ≤ 100000 := by omega
                have hkn2 : k + n ≤ s.size := by omega
                have Hlen := hid hlen
                clear hL hbl hbl' hT hd hsx hst hn hby hlen hx hg0 hg1
                go_wp2_with (first
                  | (go_at_call 26; refine (hsg _).mono ?_; rintro e w1 ⟨rfl, hb1⟩
                     have tb1 := tb0.below hb1 (by simp)
                     have c0 := tb1.c0
                     have c1 := tb1.c1
                     have c2 := tb1.c2
                     have c3 := tb1.c3
                     have f0 := tb1.f0
                     have hBX := (hB0.trans (hb1.mono (by simp))).setCell (p := ⟨wo.heap.size, 1, none⟩) (Nat.le_refl _) (.string (s.extract k (k + n)))
                     have hTX := tko_later hO.out hBX
                     have hKX := hK.next hBX)
                  | (go_at_call 27; refine (hle _).mono ?_; rintro e w2 ⟨rfl, rfl⟩)
                  | (go_at_call 29; refine (hdi _).mono ?_; rintro e w2 ⟨rfl, rfl⟩)
                  | (at_builtin
                     refine list_tk (base := w.heap.size) (.tmp 96) (.tmp 98) (.slice a1 ts.length cp) ts.length (ts.flatMap tkC) 1 [.int .i64 3, .string (s.extract k (k + n)), .int .i64 0, .int .i64 k] ?_ ?_ ?_ ?_ ?_ ?_ ?_ ?_ ?_
                     (focus rfl); (focus rfl); (focus rfl); (focus exact World.ownsRow.alloc hTX _); (focus exact ⟨_, _, rfl, src_new' (by simp) rfl⟩); (focus exact one_tk _ _ _ _); (focus exact hb100); (focus (have := hKX.1.size; simp at this ⊢; omega))
                     intro v2 w2 hown2 hg2 hat2
                     rw [tkC_of] at hown2
                     have hO2 := hid (tko_app hown2)
                     have hK2 := kp_app hKX hTX hg2
                     obtain ⟨a2, cp2, rfl, _⟩ := TkO.in_ hO2.out)
                  | fail)
                go_roundw
                case rel => exact ⟨k + n, _, hkn2, by simp, hL2, by rw [List.length_append, List.length_singleton]; omega, hK2, by rwa [List.length_append, List.length_singleton] at hO2⟩
                case measure => simp [intOf]; omega
      · obtain rfl : k = s.size := by omega
        have hfin : Hid (lexR s.data.toList = (ts ++ [⟨0, [], 0, s.size⟩], 0, 0)) := by
          show _ = _
          unfold lexR
          rw [if_neg hl10.out, hL.out, lexA_end _ _ (Nat.le_of_eq (data_len s))]
        have hb100 : ts.length + 1 ≤ 100000 := by omega
        clear hL
        go_wp2_with (first
          | (at_builtin
             refine list_tk (base := w.heap.size) (.tmp 103) (.tmp 107) (.slice a1 ts.length cp) ts.length (ts.flatMap tkC) 1 [.int .i64 0, .string { data := #[] }, .int .i64 0, .int .i64 s.size] ?_ ?_ ?_ ?_ ?_ ?_ ?_ ?_ ?_
             (focus rfl); (focus rfl); (focus rfl); (focus exact World.ownsRow.alloc hO.out _); (focus exact ⟨_, _, rfl, src_new rfl⟩); (focus exact one_tk _ _ _ _); (focus exact hb100); (focus (have := hK.1.size; simp; omega))
             intro v2 w2 hown2 hg2 hat2
             rw [tkC_of] at hown2
             have hO2 := tko_app hown2
             have hK2 := kp_app hK hO.out hg2
             obtain ⟨a2, c2, rfl, hin2⟩ := hO2.in_)
          | fail)
        go_ret3
        unfold LexPost
        rw [hfin.out]
        exact ⟨a2, c2, by simp, hin2, hK2.1⟩
end Go.Proofs.YteomcjfnghbikaaDoor
