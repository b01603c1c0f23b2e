/- PairingRounds: the walk. -/
import Derived.Test.YtiedecekbdaohaaRounds36
import Derived.Test.YtiedecekbdaohaaCleanW36
import Derived.Test.YtiedecekbdaohaaNamedW36
import Derived.Test.YtiedecekbdaohaaAppendS
namespace Go.Proofs.Ytiedecekbdaohaa
open Go.RowKit

theorem wpList_append_slS {P : Program} {w : World} {ops : Array Oper} {rest : List Oper} {o : Oper} {a : Act} {Q : Exit → Act → World → Prop} (hgd : o.guard = none) (s x : Operand) (t : TypeId)
    (ho : o.op = .call { callee := .builtin .append, args := #[s, x], argTypes := #[t, t] })
    (base : Nat) (e : TypeId) (i : TypeInfo) (z : Value) (size bytes : Nat) (ht : P.underlying t = some (.slice e)) (hi : P.info? e = some i) (hz : i.zero = some z)
    (hsize : i.size = size) (hby : i.bytes = bytes) (hzs : z.cells.size = size) (hs0 : 0 < size)
    (v : Value) (n : Nat) (xs : List Value) (hs : a.eval s = v) (hown : w.ownsRow base e size v n xs)
    (A : Option Addr) (m c : Nat) (news : List Value) (hx : a.eval x = .slice A m c) (hm : news.length = m * size) (hr : SlAt w A news) (h1 : ∀ u ∈ news, u.oneCell' = true)
    (h63 : n + m ≤ maxLen) (hbytes : (n + m) * bytes ≤ 140737488355328) (hbase : base ≤ w.heap.size)
    (h : ∀ v' w', w'.ownsRow base e size v' (n + m) (xs ++ news) → w.grownBy w' v.ownBlock → (v'.ownBlock = v.ownBlock ∨ v'.ownBlock = some w.heap.size) → wpList P ops Q rest (a.put o.dst v') w') :
    wpList P ops Q (o :: rest) a w := by
  refine wpList_plain hgd fun K hK => ?_
  obtain ⟨v', w', hrun, h2, h3, h4⟩ := run_append_slS (P := P) w base t o.type e i z size bytes ht hi hz hsize hby hzs hs0 v n xs hown A m c news hm hr h1 h63 hbytes hbase
  unfold Oper.wp execOp
  simp only [ho, resolve, invoke, builtin, Sem.run_bind, Sem.run_pure, Result.andThen_ok, List.map_toArray, List.map_cons, List.map_nil, hs, hx, hrun]
  exact hK _ _ (h v' w' h2 h3 h4)

theorem own_later {w w' : World} {base : Nat} {e : TypeId} {size n : Nat} {v : Value} {xs : List Value} (h : w.ownsRow base e size v n xs) (hb : Below w.heap.size w w') : w'.ownsRow base e size v n xs := by
  refine h.kept (grown_below hb none) ?_
  cases v.ownBlock with
  | none => exact .inl rfl
  | some k => exact .inr (by simp)
/-- What lies in memory between two rounds: who has met, and the byes, in two rows of the call's own. -/
structure RSt (w1 : World) (mv bv : Value) (M : List Pr) (B : List Int) (w : World) : Prop where
  m : w.ownsRow w1.heap.size 39 2 mv M.length (prs M)
  b : w.ownsRow w1.heap.size 3 1 bv B.length (B.map i64)
  ne : ∀ k, mv.ownBlock = some k → bv.ownBlock ≠ some k
  below : Below w1.heap.size w1 w
theorem RSt.later {w1 w w' : World} {mv bv : Value} {M : List Pr} {B : List Int} (h : RSt w1 mv bv M B w) (hb : Below w.heap.size w w') : RSt w1 mv bv M B w' :=
  ⟨own_later h.m hb, own_later h.b hb, h.ne, below_step h.below hb⟩
theorem RSt.met {w1 w w' : World} {mv mv' bv : Value} {M M' : List Pr} {B : List Int} (h : RSt w1 mv bv M B w) (ho : w'.ownsRow w1.heap.size 39 2 mv' M'.length (prs M')) (hg : w.grownBy w' mv.ownBlock) (hv : mv'.ownBlock = mv.ownBlock ∨ mv'.ownBlock = some w.heap.size) : RSt w1 mv' bv M' B w' := by
  refine ⟨ho, h.b.kept hg ?_, fun k hk hb => ?_, h.below.grown hg h.below.size (own_base h.m)⟩
  · cases hb : bv.ownBlock with
    | none => exact .inl rfl
    | some k => exact .inr (fun e => h.ne k e.symm hb)
  · rcases hv with hv | hv
    · exact h.ne k (hv ▸ hk) hb
    · rw [hv] at hk
      have := (h.b.lt k hb).2
      injection hk with hk
      omega
theorem RSt.bye {w1 w w' : World} {mv bv bv' : Value} {M : List Pr} {B B' : List Int} (h : RSt w1 mv bv M B w) (ho : w'.ownsRow w1.heap.size 3 1 bv' B'.length (B'.map i64)) (hg : w.grownBy w' bv.ownBlock) (hv : bv'.ownBlock = bv.ownBlock ∨ bv'.ownBlock = some w.heap.size) : RSt w1 mv bv' M B' w' := by
  refine ⟨h.m.kept hg ?_, ho, fun k hk hb => ?_, h.below.grown hg h.below.size (own_base h.b)⟩
  · cases hb : mv.ownBlock with
    | none => exact .inl rfl
    | some k => exact .inr (fun e => h.ne k hb e.symm)
  · rcases hv with hv | hv
    · exact h.ne k hk (hv ▸ hb)
    · rw [hv] at hb
      have := (h.m.lt k hk).2
      injection hb with hb
      omega

set_option maxRecDepth 100000 in
set_option maxHeartbeats 4000000 in
theorem c_PairingRounds (A : Option Addr) (n cap : Nat) (l : List Nat) (w : World) (hn : n = l.length) (hcap : n ≤ cap) (hc : cap ≤ 9223372036854775807) (hA : SlAt w A (l.map u8)) (h8 : ∀ x ∈ l, x < 256) :
    Calls Try.prog 9 #[.slice A n cap] w (Frm (.bool true) w) := by
  obtain ⟨i0, hi, hz0, hz1, hz2⟩ := info_parts info_i64
  obtain ⟨j0, ji, jz0, jz1, jz2⟩ := info_parts info_pr
  have HMd := Lib.hid (c_Made A n cap l 0 9 w hn (by omega) h8 (by omega) (by omega) hA)
  clear hA h8 hn
  go_enter Try.func9, Try.ntmps9
  go_wp2_with fail
  refine HMd.out.mono ?_
  rintro e w1 ⟨tv, mv, T, ps, rfl, hown, hownP, hT, hT9, hM, hpl, k1⟩
  obtain ⟨A1, c1, rfl, hc1, _, hs1⟩ := own_slI hown
  obtain ⟨A2, c2, rfl, hc2, _, hs2⟩ := own_slP hownP
  have HT := Lib.hid hT
  have HS1 := Lib.hid hs1
  have HAw := Lib.hid (fun W => c_awake W)
  clear hown hownP hM hT hs1 hs2 hpl HMd
  go_wp2_with fail
  have HR0 := Lib.hid (show RSt w1 (.slice none 0 0) (.slice none 0 0) [] [] w1 from ⟨own_nil _ _, own_nil _ _, (fun k hk => by cases hk), Below.refl _ _⟩)
  go_loopw [5, 6, 7, 8, 9, 10, 11, 13, 15] (fun mv bv rv _ _ _ _ _ _ wr => ∃ (r : Nat) (M : List Pr) (B : List Int), rv = .int .i64 r ∧ Hid (RSt w1 mv bv M B wr) ∧ Hid (RInv T M B r)) (fun _ _ rv _ _ _ _ _ _ _ => T.length + 1 - (intOf rv).toNat)
  case atStart => exact ⟨0, [], [], rfl, HR0, RInv.start T⟩
  case round =>
    obtain ⟨r, M, B, rfl, HS, HI⟩ := hrel
    obtain ⟨wo, rfl⟩ : ∃ wo, wo = wr := ⟨_, rfl⟩
    obtain ⟨AM, cM, rfl, hcM, _, hsM⟩ := own_slP HS.out.m
    obtain ⟨AB, cB, rfl, hcB, _, hsB⟩ := own_slI HS.out.b
    have hrm := HI.out.le
    have hrT : r ≤ T.length := by unfold most at hrm; split at hrm <;> omega
    have hMl : M.length ≤ 40 := by have := HI.out.mlen; omega
    have hBl : B.length ≤ 9 := by
      by_cases he : T.length % 2 = 0
      · rw [(HI.out.ev he).1]; exact Nat.zero_le _
      · rw [(HI.out.od (by omega)).2.2]; omega
    have HD := Lib.hid (c_Draw A1 T.length c1 T AM M.length cM M AB B.length cB B wo rfl hc1 (by omega) rfl (by omega) rfl (by omega) (HS1.out.below HS.out.below) hsM hsB)
    have p1 : decide ((r : Int) ≤ (T.length : Int)) = true := decide_eq_true (by omega)
    have p2 : (r : Int) ≤ (T.length : Int) := by omega
    rcases round_all HT.out hT9 HI.out with ⟨hp, hne, hor⟩ | ⟨d, b, hp, hR⟩
    · rw [hp] at HD
      clear hp hsM hsB
      go_wp2_with fail
      refine HD.out.mono ?_
      rintro e w2 ⟨v2, rfl, hown2, k2⟩
      dsimp only at hown2 ⊢
      obtain ⟨A3, c3, rfl, hc3, _, hs3⟩ := own_slP hown2
      clear hown2 hs3
      have hT0 : T.length ≠ 0 := fun e => hne (List.eq_nil_of_length_eq_zero e)
      have p3 : (r : Int) ≤ (T.length : Int) - 1 + (T.length : Int) % 2 := by unfold most at hrm; split at hrm <;> omega
      have K2 := below_step HS.out.below k2
      clear hT0 hne hrm
      by_cases h2 : T.length < 2
      case' pos => have p4 : (T.length : Int) < 2 := by omega
      case' neg =>
        have p4 : ¬ (T.length : Int) < 2 := by omega
        have p5 : (0 : Int) < (r : Int) := by omega
      all_goals
        clear h2 hor
        go_wp2_with fail
        refine (HAw.out _).mono ?_
        rintro e w3 ⟨rfl, k3⟩
        go_wp2_with fail
        go_ret
        exact ⟨rfl, below_step k1 (below_step K2 k3)⟩
    · rw [hp] at HD
      clear hp hsM hsB hrm
      have HRd := Lib.hid hR
      have hdl := hR.len
      have hb64 := hR.b64
      have hnb := Lib.hid hR.new
      obtain ⟨q, hq⟩ : ∃ q, q = (b != 0) := ⟨_, rfl⟩
      have e1 : (b != 0) = q := hq.symm
      have e2 : ((T.length : Int) % 2 == 1) = q := by
        rw [hq, hR.bye]
        by_cases h : T.length % 2 = 1
        · rw [decide_eq_true h]; simp; omega
        · rw [decide_eq_false h]; simp; omega
      have e3 : (q != q) = false := by simp
      have hq' := Lib.hid hq
      clear hR hq
      go_wp2_with fail
      refine HD.out.mono ?_
      rintro e w2 ⟨v2, rfl, hown2, k2⟩
      dsimp only at hown2 ⊢
      rw [show ((0 : Nat) : Int) = 0 from rfl]
      obtain ⟨A3, c3, rfl, hc3, _, hs3⟩ := own_slP hown2
      have HS2 := Lib.hid (HS.out.later k2)
      have HD2 := Lib.hid hs3
      clear hown2 hs3 HS HD k2
      go_wp2_with fail
      go_loopw [11, 13, 51] (fun ov _ iv wr => ∃ k : Nat, k ≤ T.length ∧ iv = .int .i64 k ∧ wr.ownsRow w2.heap.size 3 1 ov ((T.take k).filter fun y => y != b).length (((T.take k).filter fun y => y != b).map i64) ∧ Below w2.heap.size w2 wr) (fun _ _ iv _ => T.length - (intOf iv).toNat)
      case atStart => exact ⟨0, Nat.zero_le _, rfl, own_nil _ _, Below.refl _ _⟩
      case round =>
        obtain ⟨k, hk, rfl, hown, B2⟩ := hrel
        have hsz := B2.size
        by_cases hlt : k < T.length
        · obtain ⟨bT, oT, x, rfl, hbT, hx, hcx⟩ := (HS1.out.below (below_step HS2.out.below B2)).i64_at hlt
          have hf := filter_take_step (p := fun y => y != b) hx
          have hrl : ((T.take k).filter fun y => y != b).length ≤ 9 := Nat.le_trans (List.length_filter_le ..) (by rw [List.length_take]; omega)
          generalize ((T.take k).filter fun y => y != b) = r0 at *
          have HO := Lib.hid hown
          clear hown hx
          cases hxb : x != b
          · rw [hxb] at hf
            have Hf := Lib.hid (hf.trans (show _ = r0 from by simp))
            clear hf
            go_wp2_with fail
            go_roundw
            case rel => exact ⟨k + 1, by omega, by go_num, by rw [Hf.out]; exact HO.out, B2⟩
            case measure => simp [intOf]; omega
          · rw [hxb] at hf
            have Hf := Lib.hid (hf.trans (show _ = r0 ++ [x] from by simp))
            clear hf
            go_wp2_with (at_builtin; go_must (refine wpList_append_sl rfl (.tmp 58) (.tmp 60) 22 rfl w2.heap.size 3 i0 (.int .i64 0) 8 Try.underlying22 hi hz0 hz1 hz2 rfl _ r0.length _ rfl (HO.out.alloc _) (some ⟨wr.heap.size, 0, none⟩) 1 1 [.int .i64 x] rfl rfl (sl_one _ _ _) (by simp [Value.oneCell']) (by unfold maxLen; omega) (by omega) (by simp; omega) ?_); intro v3 w3 hown3 hg3 _)
            go_roundw
            case rel => exact ⟨k + 1, by omega, by go_num, by rw [Hf.out, List.length_append, List.map_append]; exact hown3, (B2.alloc B2.size _).grown hg3 (by simp; omega) (own_base HO.out)⟩
            case measure => simp [intOf]; omega
        · obtain rfl : k = T.length := by omega
          rw [List.take_of_length_le (Nat.le_refl _)] at hown
          have hrl : (T.filter fun y => y != b).length ≤ 9 := Nat.le_trans (List.length_filter_le ..) (by omega)
          have hcl := HRd.out.clean
          have hr64 : ∀ x ∈ T.filter (fun y => y != b), 1 ≤ x ∧ x ≤ 64 := fun x hx => HT.out.2 x (List.mem_filter.1 hx).1
          generalize (T.filter fun y => y != b) = r0 at *
          obtain ⟨A4, c4, rfl, hc4, _, hs4⟩ := own_slI hown
          obtain ⟨w3, rfl⟩ : ∃ w3 : World, w3 = wr := ⟨_, rfl⟩
          have HS3 := Lib.hid (HS2.out.later B2)
          have HD3 := Lib.hid (HD2.out.below B2)
          obtain ⟨AM', cM', eM, hcM1, _, hsM⟩ := own_slP HS3.out.m
          injection eM with eM1 eM2 eM3
          subst eM1 eM3
          have HC := Lib.hid (c_clean A4 r0.length c4 r0 AM M.length cM M A3 d.length c3 d w3 rfl rfl rfl (by omega) (by omega) (by omega) hr64 HRd.out.n64 hs4 hsM HD3.out)
          rw [hcl] at HC
          clear hown
          go_wp2_with fail
          refine HC.out.mono ?_
          rintro e w4 ⟨rfl, k4⟩
          have HS4 := Lib.hid (HS3.out.later k4)
          have HD4 := Lib.hid (HD3.out.below k4)
          clear hs4 hsM HC HS3 HD3 k4 hcl hr64 B2 HS2 HD2 eM2
          go_wp2_with (at_builtin; go_must (refine wpList_append_slS rfl (.tmp 68) (.tmp 69) 23 rfl w1.heap.size 39 j0 _ 2 16 Try.underlying23 ji jz0 jz1 jz2 rfl (by omega) (.slice AM M.length cM) M.length (prs M) rfl HS4.out.m A3 d.length c3 (prs d) rfl (by rw [prs_len, Nat.mul_comm]) HD4.out prs_one (by unfold maxLen; omega) (by omega) HS4.out.below.size ?_); intro v5 w5 hown5 hg5 hb5)
          have hown5' : w5.ownsRow w1.heap.size 39 2 v5 (M ++ d).length (prs (M ++ d)) := by rw [List.length_append, prs_append]; exact hown5
          have HS5 := Lib.hid (HS4.out.met hown5' hg5 hb5)
          obtain ⟨AB', cB', eB, hcB1, _, hsB⟩ := own_slI HS5.out.b
          injection eB with eB1 eB2 eB3
          subst eB1 eB3
          have HB5 := Lib.hid hsB
          clear hown5 hown5' hg5 hb5 HS4 HD4 hsB eB2
          go_loopw [15, 73] (fun _ iv wr => ∃ k : Nat, k ≤ B.length ∧ iv = .int .i64 k ∧ wr = w5) (fun _ iv _ => B.length - (intOf iv).toNat)
          case atStart => exact ⟨0, Nat.zero_le _, rfl, rfl⟩
          case round =>
            obtain ⟨k, hk, rfl, rfl⟩ := hrel
            by_cases hlt : k < B.length
            · obtain ⟨bB, oB, x, rfl, hbB, hx, hcx⟩ := HB5.out.i64_at hlt
              have e4 : (x == b) = false := beq_eq_false_iff_ne.2 (fun e => hnb.out (e ▸ List.mem_of_getElem? hx))
              clear hx
              go_wp2_with fail
              go_roundw
              case rel => exact ⟨k + 1, by omega, by go_num, trivial⟩
              case measure => simp [intOf]; omega
            · obtain rfl : k = B.length := by omega
              cases q
              · by_cases hT0 : T.length = 0
                · obtain rfl : d = [] := HRd.out.nil (List.eq_nil_of_length_eq_zero hT0)
                  have e5 : ((T.length : Int) == 0) = true := by rw [hT0]; rfl
                  clear hT0
                  go_wp2_with fail
                  refine (HAw.out _).mono ?_
                  rintro e w6 ⟨rfl, k6⟩
                  go_wp2_with fail
                  go_ret
                  exact ⟨rfl, below_step k1 (below_step HS5.out.below k6)⟩
                · have e5 : ((T.length : Int) == 0) = false := beq_eq_false_iff_ne.2 (by omega)
                  have hnx := HRd.out.next (fun e => hT0 (by rw [e]; rfl))
                  rw [e1, if_neg Bool.noConfusion] at hnx
                  have Hnx := Lib.hid hnx
                  clear hT0 hnx
                  go_wp2_with fail
                  go_roundw
                  case rel => exact ⟨r + 1, M ++ d, B, by go_num, HS5, Hnx⟩
                  case measure => simp [intOf]; omega
              · have hT1 : T.length % 2 = 1 := by
                  have := eq_of_beq e2
                  omega
                have e5 : ((T.length : Int) == 0) = false := beq_eq_false_iff_ne.2 (by omega)
                have hnx := HRd.out.next (fun e => by rw [e] at hT1; simp at hT1)
                rw [e1, if_pos rfl] at hnx
                have Hnx := Lib.hid hnx
                clear hnx hT1
                have hszr := HS5.out.below.size
                go_wp2_with (at_builtin; go_must (refine wpList_append_sl rfl (.tmp 83) (.tmp 85) 22 rfl w1.heap.size 3 i0 (.int .i64 0) 8 Try.underlying22 hi hz0 hz1 hz2 rfl (.slice AB B.length cB) B.length (B.map i64) rfl (HS5.out.b.alloc _) (some ⟨wr.heap.size, 0, none⟩) 1 1 [.int .i64 b] rfl rfl (sl_one _ _ _) (by simp [Value.oneCell']) (by unfold maxLen; omega) (by omega) (by simp; omega) ?_); intro v6 w6 hown6 hg6 hb6)
                have hown6' : w6.ownsRow w1.heap.size 3 1 v6 (B ++ [b]).length ((B ++ [b]).map i64) := by rw [List.length_append, List.map_append]; exact hown6
                have HS6 := Lib.hid ((HS5.out.later ((Below.refl wr.heap.size wr).alloc (Nat.le_refl _) (.cells #[.int .i64 b] 3))).bye hown6' hg6 hb6)
                clear hown6 hown6' hg6 hb6
                go_roundw
                case rel => exact ⟨r + 1, M ++ d, B ++ [b], by go_num, HS6, Hnx⟩
                case measure => simp [intOf]; omega
end Go.Proofs.Ytiedecekbdaohaa
