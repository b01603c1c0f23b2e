/- Contract of Made of the statements of layer 36. -/
import Derived.Test.YtiedecekbdaohaaAwake36
namespace Go.Proofs.Ytiedecekbdaohaa
open Go.RowKit

theorem SlAt.u8_at' {w : World} {A : Option Addr} {l : List Nat} (h : SlAt w A (l.map u8)) {k : Nat} (hk : k < l.length) :
    ∃ b o x, A = some ⟨b, o, none⟩ ∧ b < w.heap.size ∧ l[k]? = some x ∧ w.cell? ⟨b, o + k, none⟩ = some (.int .u8 (x : Nat)) := h.u8_at hk
def TeamsOk (t : List Int) : Prop := t.Nodup ∧ ∀ x ∈ t, 1 ≤ x ∧ x ≤ 64
theorem TeamsOk.snoc {t : List Int} {x : Int} (h : TeamsOk t) (hx : 1 ≤ x ∧ x ≤ 64) (hn : x ∉ t) : TeamsOk (t ++ [x]) := by
  refine ⟨?_, fun y hy => ?_⟩
  · rw [List.nodup_append]
    refine ⟨h.1, by simp, fun a ha b hb => ?_⟩
    rw [List.mem_singleton] at hb
    subst hb
    exact fun e => hn (e ▸ ha)
  · rcases List.mem_append.1 hy with hy | hy
    · exact h.2 y hy
    · rw [List.mem_singleton] at hy; subst hy; exact hx
def MetOk (t : List Int) (ps : List Pr) : Prop := ∀ p ∈ ps, p.1 ∈ t ∧ p.2 ∈ t ∧ p.1 ≠ p.2
theorem MetOk.snoc {t : List Int} {ps : List Pr} {p : Pr} (h : MetOk t ps) (hp : p.1 ∈ t ∧ p.2 ∈ t ∧ p.1 ≠ p.2) : MetOk t (ps ++ [p]) := by
  intro q hq
  rcases List.mem_append.1 hq with hq | hq
  · exact h q hq
  · rw [List.mem_singleton] at hq; subst hq; exact hp
theorem hasI_take_succ {t : List Int} {v x : Int} {k : Nat} (hx : t[k]? = some x) : hasI (t.take (k + 1)) v = (hasI (t.take k) v || (x == v)) := by
  obtain ⟨hk, rfl⟩ := List.getElem?_eq_some_iff.1 hx
  have hm : v ∈ t.take (k + 1) ↔ v ∈ t.take k ∨ v = t[k] := by rw [List.take_succ_eq_append_getElem hk, List.mem_append, List.mem_singleton]
  unfold hasI
  rw [Bool.eq_iff_iff, Bool.or_eq_true, decide_eq_true_iff, decide_eq_true_iff, hm, beq_iff_eq]
  exact or_congr Iff.rfl eq_comm
theorem heap_at (w : World) (cs : Array Value) (t : TypeId) (g : Nat) (hg : w.heap.size = g) : (w.alloc (.cells cs t)).heap[g]? = some (.cells cs t (0, 0)) := by
  subst hg; exact heap_alloc_new w _
theorem wal2' {n : Nat} {a w : World} (h : Below n a w) (hn : n ≤ w.heap.size) (o o' : Obj) : Below n a ((w.alloc o).alloc o') := (h.alloc hn o).alloc (by simp; omega) o'
theorem below_dr {n : Nat} {a w : World} (h : Below n a w) : Below n a w.drew := ⟨h.os, h.tape, h.output, h.size, h.block⟩
def MadePost (most : Nat) (w : World) (e : Ending) (w' : World) : Prop :=
  ∃ v u t ps, e = .returned (.tuple #[v, u]) ∧ w'.ownsRow w.heap.size 3 1 v t.length (t.map i64) ∧ w'.ownsRow w.heap.size 39 2 u ps.length (prs ps) ∧ TeamsOk t ∧ t.length ≤ most ∧ MetOk t ps ∧ ps.length ≤ 400 ∧ Below w.heap.size w w'

set_option maxRecDepth 100000 in
set_option maxHeartbeats 4000000 in
theorem c_Made (A : Option Addr) (n cap : Nat) (l : List Nat) (bt most : Nat) (w : World) (hn : n = l.length) (hl : l.length ≤ 9223372036854775807) (h8 : ∀ x ∈ l, x < 256) (hbt : bt < 2 ^ 64) (hmo : most ≤ 16) (hA : SlAt w A (l.map u8)) :
    Calls Try.prog 24 #[.slice A n cap, .int .u64 bt, .int .i64 most] w (MadePost most w) := by
  obtain ⟨i0, hi, hz0, hz1, hz2⟩ := info_parts info_i64
  obtain ⟨j0, ji, jz0, jz1, jz2⟩ := info_parts info_pr
  subst hn
  have HA := Lib.hid hA
  have H8 := Lib.hid h8
  clear hA h8
  go_enter Try.func24, Try.ntmps24
  go_wp2_with fail
  go_loopw [8, 10, 11, 12, 14, 22] (fun tv _ _ _ _ iv wr => ∃ (k : Nat) (t : List Int), k ≤ l.length ∧ iv = .int .i64 k ∧ wr.ownsRow w.heap.size 3 1 tv t.length (t.map i64) ∧ t.length ≤ most ∧ Hid (TeamsOk t) ∧ Below w.heap.size w wr) (fun _ _ _ _ _ iv _ => l.length - (intOf iv).toNat)
  case atStart => exact ⟨0, [], Nat.zero_le _, rfl, own_nil _ _, Nat.zero_le _, ⟨List.nodup_nil, by simp⟩, Below.refl _ _⟩
  case round =>
    obtain ⟨k, t, hk, rfl, hown, htm, HT, B⟩ := hrel
    have hsz := B.size
    by_cases hlt : k < l.length
    · obtain ⟨b, o, x, rfl, hb, hx, hc⟩ := (HA.out.below B).u8_at' hlt
      have hx8 := H8.out x (List.mem_of_getElem? hx)
      obtain ⟨A2, c2, rfl, hc2, _, hs2⟩ := own_slI hown
      have HO := Lib.hid hown
      have HS := Lib.hid hs2
      obtain ⟨v, ev, hv⟩ : ∃ v : Int, (1 : Int) + (x : Int) % 64 = v ∧ 1 ≤ v ∧ v ≤ 64 := ⟨_, rfl, by omega, by omega⟩
      clear hx hown hs2
      go_wp2_with fail
      clear ev
      obtain ⟨wz, rfl⟩ : ∃ wz : World, wz = wr := ⟨_, rfl⟩
      go_loop [12, 14, 32] (fun tw _ jv => ∃ j : Nat, j ≤ t.length ∧ jv = .int .i64 j ∧ tw = .bool (hasI (t.take j) v)) (fun _ _ jv => t.length - (intOf jv).toNat)
      case atStart => exact ⟨0, Nat.zero_le _, rfl, rfl⟩
      case round =>
        obtain ⟨j, hj, rfl, rfl⟩ := hrel
        by_cases hjt : j < t.length
        · obtain ⟨b2, o2, y, rfl, hb2, hy, hcy⟩ := HS.out.i64_at hjt
          have hst := hasI_take_succ (v := v) hy
          cases hh : hasI (t.take j) v with
          | true =>
            rw [hh, Bool.true_or] at hst
            have Hst := Lib.hid hst
            clear hst hy hh
            go_wp2_with fail
            go_round
            case rel => exact ⟨j + 1, by omega, by go_num, by rw [Hst.out]⟩
            case measure => simp [intOf]; omega
          | false =>
            rw [hh, Bool.false_or] at hst
            cases e2 : y == v with
            | true =>
              rw [e2] at hst
              have Hst := Lib.hid hst
              clear hst hy hh
              go_wp2_with fail
              go_round
              case rel => exact ⟨j + 1, by omega, by go_num, by rw [Hst.out]⟩
              case measure => simp [intOf]; omega
            | false =>
              rw [e2] at hst
              have Hst := Lib.hid hst
              clear hst hy hh
              go_wp2_with fail
              go_round
              case rel => exact ⟨j + 1, by omega, by go_num, by rw [Hst.out]⟩
              case measure => simp [intOf]; omega
        · obtain rfl : j = t.length := by omega
          rw [List.take_length]
          cases hh : hasI t v with
          | true =>
            clear hh
            go_wp2_with fail
            go_roundw
            case rel => exact ⟨k + 1, t, by omega, by go_num, HO.out, htm, HT, B⟩
            case measure => simp [intOf]; omega
          | false =>
            have Hn : Hid (v ∉ t) := of_decide_eq_false hh
            clear hh
            by_cases hmt : t.length < most
            · have e3 : (t.length : Int) < (most : Int) := by omega
              go_wp2_with (at_builtin; go_must (refine wpList_append_sl rfl (.tmp 51) (.tmp 53) 22 rfl w.heap.size 3 i0 (.int .i64 0) 8 Try.underlying22 hi hz0 hz1 hz2 rfl _ t.length _ rfl (HO.out.alloc _) (some ⟨wz.heap.size, 0, none⟩) 1 1 [.int .i64 v] rfl rfl (sl_one _ _ _) (by simp [Value.oneCell']) (by unfold maxLen; omega) (by omega) (by simp; omega) ?_); intro v2 w2 hown2 hg2 _)
              go_roundw
              case rel =>
                refine ⟨k + 1, t ++ [v], by omega, by go_num, ?_, by rw [List.length_append]; show t.length + 1 ≤ most; omega, HT.out.snoc hv Hn.out, (B.alloc B.size _).grown hg2 (by simp; omega) (own_base HO.out)⟩
                rw [List.map_append, List.length_append]
                exact hown2
              case measure => simp [intOf]; omega
            · have e3 : ¬ (t.length : Int) < (most : Int) := by omega
              go_wp2_with fail
              go_roundw
              case rel => exact ⟨k + 1, t, by omega, by go_num, HO.out, htm, HT, B⟩
              case measure => simp [intOf]; omega
    · obtain rfl : k = l.length := by omega
      obtain ⟨A2, c2, rfl, hc2, _, hs2⟩ := own_slI hown
      have HO := Lib.hid hown
      have HS := Lib.hid hs2
      clear hown hs2
      go_wp2_with fail
      obtain ⟨ws, rfl⟩ : ∃ ws : World, ws = wr := ⟨_, rfl⟩
      have Ht16 : Hid (t.length ≤ 16) := by show t.length ≤ 16; omega
      go_loopw [15, 16, 17, 18, 19, 58] (fun mv nv _ _ _ iv wr => ∃ (i nn : Nat) (ps : List Pr), i ≤ t.length ∧ iv = .int .i64 i ∧ nv = .int .i64 nn ∧ wr.ownsRow ws.heap.size 39 2 mv ps.length (prs ps) ∧ Hid (MetOk t ps) ∧ ps.length ≤ nn ∧ nn ≤ i * 16 ∧ Below ws.heap.size ws wr) (fun _ _ _ _ _ iv _ => t.length - (intOf iv).toNat)
      case atStart => exact ⟨0, 0, [], Nat.zero_le _, rfl, rfl, own_nil _ _, (fun p hp => by cases hp), Nat.le_refl _, Nat.le_refl _, Below.refl _ _⟩
      case round =>
        obtain ⟨i, nn, ps, hi', rfl, rfl, hown, HM, hpn, hni, B1⟩ := hrel
        have HO1 := Lib.hid hown
        have hsz1 := B1.size
        have ht16 := Ht16.out
        clear hown
        by_cases hit : i < t.length
        · have hit4 : decide ((i : Int) < (t.length : Int)) = true := decide_eq_true (by omega)
          go_wp2_with fail
          clear hit4
          obtain ⟨wz, rfl⟩ : ∃ wz : World, wz = wr := ⟨_, rfl⟩
          go_loopw [15, 16, 18, 19, 62] (fun mv nv _ _ kv wr => ∃ (kk n2 : Nat) (ps : List Pr), kk ≤ i ∧ kv = .int .i64 kk ∧ nv = .int .i64 n2 ∧ wr.ownsRow ws.heap.size 39 2 mv ps.length (prs ps) ∧ Hid (MetOk t ps) ∧ ps.length ≤ n2 ∧ n2 ≤ i * 16 + kk ∧ Below ws.heap.size ws wr) (fun _ _ _ _ kv _ => i - (intOf kv).toNat)
          case atStart => exact ⟨0, nn, ps, Nat.zero_le _, rfl, rfl, HO1.out, HM, hpn, by omega, B1⟩
          case round =>
            obtain ⟨kk, n2, ps2, hkk, rfl, rfl, hown2, HM2, hpn2, hn2, B2⟩ := hrel
            have HO2 := Lib.hid hown2
            have hsz2 := B2.size
            clear hown2
            by_cases hki : kk < i
            · obtain ⟨xi, hxi⟩ := getI_some (l := t) (k := i) hit
              obtain ⟨xk, hxk⟩ := getI_some (l := t) (k := kk) (by omega)
              obtain ⟨b3, o3, rfl, hb3, hcs⟩ := (HS.out.below B2).i64_all (by omega)
              have ci := hcs i xi hxi
              have ck := hcs kk xk hxk
              have hxt := List.mem_of_getElem? hxi
              have hkt := List.mem_of_getElem? hxk
              have hne : xi ≠ xk := by
                obtain ⟨h1, e1⟩ := List.getElem?_eq_some_iff.1 hxi
                obtain ⟨h2, e2⟩ := List.getElem?_eq_some_iff.1 hxk
                rw [← e1, ← e2]
                exact fun e => (List.pairwise_iff_getElem.1 HT.out.1) kk i h2 h1 hki e.symm
              have HPa := Lib.hid (HM2.out.snoc (p := (xi, xk)) ⟨hxt, hkt, hne⟩)
              have HPb := Lib.hid (HM2.out.snoc (p := (xk, xi)) ⟨hkt, hxt, fun e => hne e.symm⟩)
              have p1 : (0 : Int) ≤ (i : Int) := by omega
              have p2 : (i : Int) < (t.length : Int) := by omega
              have p3 : (0 : Int) ≤ (kk : Int) := by omega
              have p4 : (kk : Int) < (t.length : Int) := by omega
              clear hxi hxk hcs hxt hkt hne
              cases eb : (bits BinOp.and IntKind.u64 ((bt : Int) / 2 ^ (n2 % 64)) 1 == 1) with
              | false =>
                go_wp2_with fail
                go_roundw
                case rel => exact ⟨kk + 1, n2 + 1, ps2, by omega, by go_num, by go_num, HO2.out, HM2, by omega, by omega, B2⟩
                case measure => simp [intOf]; omega
              | true =>
                have r1 := World.new_ne wr _ ci
                have r2 := World.new_ne wr _ ck
                go_wp2_with fail
                go_region_held3 (fun W => W.cell? ⟨b3, o3 + i, none⟩ = some (.int .i64 xi) ∧ W.cell? ⟨b3, o3 + kk, none⟩ = some (.int .i64 xk)) (first | exact ⟨by assumption, by assumption⟩ | go_keep) (fail)
                by_cases hodd : n2 % 2 = 1
                · have e7 : (((n2 : Int) % 2) == 1) = true := beq_iff_eq.2 (by omega)
                  have ci2 : (wr.alloc (.cells #[Value.int .i64 xi, Value.int .i64 xk] 39)).drew.cell? ⟨b3, o3 + i, none⟩ = some (.int .i64 xi) := cell_keep_alloc _ ci
                  have ck2 : (wr.alloc (.cells #[Value.int .i64 xi, Value.int .i64 xk] 39)).drew.cell? ⟨b3, o3 + kk, none⟩ = some (.int .i64 xk) := cell_keep_alloc _ ck
                  clear hodd
                  go_wp2_with fail
                  go_region_held3 (fun W => W.cell? ⟨b3, o3 + i, none⟩ = some (.int .i64 xi) ∧ W.cell? ⟨b3, o3 + kk, none⟩ = some (.int .i64 xk)) (first | exact ⟨by assumption, by assumption⟩ | go_keep) (fail)
                  go_wp2_with (at_builtin; go_must (refine wpList_append_lies _ rfl (.tmp 92) (.tmp 94) 23 rfl ws.heap.size 39 j0 _ 2 16 Try.underlying23 ji jz0 jz1 jz2 rfl (by omega) u15 ps2.length (prs ps2) rfl ?_ ⟨wr.heap.size + 1, 0, none⟩ 1 1 [.int .i64 xk, .int .i64 xi] rfl rfl (World.news_of_block (cs := #[.int .i64 xk, .int .i64 xi]) (t := 39) (fr := (0, 0)) ?_) (by simp [Value.oneCell']) (by omega) (by unfold maxLen; omega) (by omega) ?_ (wr.heap.size + 1 + 1) (by simp) ?_))
                  · exact (HO2.out.alloc _).alloc _
                  · exact heap_at _ _ _ _ (by simp)
                  · simp; omega
                  intro g8 c8 w8 hown8 hg8 _ _
                  have B8 : Below ws.heap.size ws w8 := (below_dr (below_dr (wal2' B2 hsz2 _ _))).grown hg8 (by simp; omega) (own_base HO2.out)
                  go_wp2_with fail
                  go_roundw
                  case rel =>
                    refine ⟨kk + 1, n2 + 1, ps2 ++ [(xk, xi)], by omega, by go_num, by go_num, ?_, HPb, by rw [List.length_append]; show ps2.length + 1 ≤ n2 + 1; omega, by omega, B8⟩
                    rw [List.length_append, prs_append]
                    exact hown8
                  case measure => simp [intOf]; omega
                · have e7 : (((n2 : Int) % 2) == 1) = false := beq_eq_false_iff_ne.2 (by omega)
                  clear hodd
                  go_wp2_with (at_builtin; go_must (refine wpList_append_lies _ rfl (.tmp 92) (.tmp 94) 23 rfl ws.heap.size 39 j0 _ 2 16 Try.underlying23 ji jz0 jz1 jz2 rfl (by omega) u15 ps2.length (prs ps2) rfl ?_ ⟨wr.heap.size + 1, 0, none⟩ 1 1 [.int .i64 xi, .int .i64 xk] rfl rfl (World.news_of_block (cs := #[.int .i64 xi, .int .i64 xk]) (t := 39) (fr := (0, 0)) ?_) (by simp [Value.oneCell']) (by omega) (by unfold maxLen; omega) (by omega) ?_ (wr.heap.size + 1 + 1) (by simp) ?_))
                  · exact (HO2.out.alloc _).alloc _
                  · exact heap_at _ _ _ _ (by simp)
                  · simp; omega
                  intro g8 c8 w8 hown8 hg8 _ _
                  have B8 : Below ws.heap.size ws w8 := (below_dr (wal2' B2 hsz2 _ _)).grown hg8 (by simp; omega) (own_base HO2.out)
                  go_wp2_with fail
                  go_roundw
                  case rel =>
                    refine ⟨kk + 1, n2 + 1, ps2 ++ [(xi, xk)], by omega, by go_num, by go_num, ?_, HPa, by rw [List.length_append]; show ps2.length + 1 ≤ n2 + 1; omega, by omega, B8⟩
                    rw [List.length_append, prs_append]
                    exact hown8
                  case measure => simp [intOf]; omega
            · obtain rfl : kk = i := by omega
              go_wp2_with fail
              go_roundw
              case rel => exact ⟨kk + 1, n2, ps2, by omega, by go_num, rfl, HO2.out, HM2, hpn2, by omega, B2⟩
              case measure => simp [intOf]; omega
        · obtain rfl : i = t.length := by omega
          go_wp2_with fail
          go_ret2
          refine ⟨_, _, t, ps, rfl, HO.out.kept (grown_below B1 none) ?_, own_mono HO1.out hsz, HT.out, htm, HM.out, by omega, below_step B B1⟩
          cases A2 with
          | none => exact .inl rfl
          | some ad => exact .inr (by simp [Value.ownBlock])
end Go.Proofs.Ytiedecekbdaohaa
