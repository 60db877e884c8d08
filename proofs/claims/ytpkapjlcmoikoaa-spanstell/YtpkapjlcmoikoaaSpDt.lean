import Derived.Test.YtpkapjlcmoikoaaSpDl
set_option linter.all false
/-
  At.
-/
namespace Go.Sx
open Go
def Xf19 : Cfg := ⟨[19, 36, 37, 45], [12], false⟩
def Xf19b : Cfg := ⟨[19, 36, 37, 45], [12], true⟩
set_option maxRecDepth 100000
set_option maxHeartbeats 4000000
set_option linter.all false
section
variable (n c t : Int) (tm core kind fk flat : Int → Int)
theorem spec_at (h0 : 0 ≤ n) (hN : n ≤ 300) (hmay : mayB n tm core kind = true) (hr : ∀ i, 0 ≤ i → i < n → tm i < 9223372036854775808) : Spec PP 19 [.sl 0 5 (.c 0) (.sh n) none, .int .i64 (.sh c), .int .i64 (.sh t)] [(0, false, .row 31 5 (.sh n) (rowL tm core kind fk flat))] 1
    (fun out => ∃ len L, L.take len.toNat = (spans tm core kind c n.toNat).filter (atB t) ∧ 0 ≤ len ∧ len ≤ (L.length : Int) ∧ out = .row (fun h => .tup [.sl h 5 (.c 0) (.sh len) none, .int .i64 (.lit 0)]) 33 5 (.sh len) (spF L)) := by
  intro C
  refine CallOb.of_run (X := Xf19) m1 (by decide +kernel) (by decide +kernel) 3000 fun O hO => ?_
  cbv
  refine hO.co (Spec.call (spec_all n n tm core kind fk flat [c] h0 (Int.le_refl _) (by omega) (by simp) (by simp) hmay hr 1 rfl) [.of 0, .of 2] rfl rfl ?_ ?_ (fun out ho => ?_) (fun out ho => ?_))
  · cbv; repeat' apply And.intro
    all_goals first | exact trivial | exact ⟨rfl⟩ | exact noCap
  · exact ⟨⟨(fun h => by cases h), one_row rfl⟩, ⟨fun h => h, rfl, ⟨rfl⟩, fun e e' j h _ _ hj => rowL_le e e' j h hj⟩, trivial⟩
  · obtain ⟨len, M, _, rfl⟩ := ho; exact all_plain
  obtain ⟨len, M, hM, rfl⟩ := ho
  have hMs : M = spans tm core kind c n.toNat := by rw [hM.l]; exact allSp_one c _ (fun x => by simp) _
  have hlen := hM.len
  clear hM
  have hM9 := spans_len3 tm core kind c n hN M hMs
  rw [← hMs]
  have hlen0 : 0 ≤ len := by omega
  have hlen9 : len ≤ 900 := by omega
  clear hMs
  cbv
  refine hO.lo (loop_rule' (ι := { i : Int // 0 ≤ i ∧ i ≤ len ∧ ∀ x : Int, 0 ≤ x → x < i → atB t (M.getD x.toNat default) = true })
    (fun st i => ⟨liveK st.tmps [0, 1, 6, 7] [(8, .int .i64 (.sh i.1))], st.heap, 4, []⟩)
    (fun i => (len - i.1).toNat) ⟨0, by simp, hlen0, fun x h1 h2 => by omega⟩ [] ?_ (fun h hh => by cases hh) (fun _ => rfl) fun i => ?_)
  · constructor
    · cbv; repeat' apply And.intro
      all_goals first | exact trivial | exact ⟨rfl⟩ | exact noCap
    · cbv; repeat' apply And.intro
      all_goals first | exact trivial | exact ⟨rfl⟩ | exact fun h => h | rfl | exact fun e e' j h _ _ hj => rowL_le e e' j h hj | exact fun e e' j h _ _ hj => spF_le e e' j h hj
    · cbv
    · cbv
    · cbv
  · obtain ⟨i, hi0, hi, hall⟩ := i
    have hlen : len = (M.length : Int) := hlen
    have hend : i = len → M.take len.toNat = M.filter (atB t) := fun h => by
      have e := filter_all (t := t) (i := i) (M := M) (by omega) hall
      rw [← h, ← e, List.take_of_length_le (by omega)]
    have hlenM : len ≤ (M.length : Int) := by omega
    have hltM : i < len → i < M.length := fun h => by omega
    refine (?_ : ∀ s, s = M.getD i.toNat default → _) _ rfl
    intro s hsd
    have g1 : (M.getD i.toNat default).core = s.core := by rw [hsd]
    have g2 : (M.getD i.toNat default).kind = s.kind := by rw [hsd]
    have g3 : (M.getD i.toNat default).frm = s.frm := by rw [hsd]
    have g4 : (M.getD i.toNat default).to = s.to := by rw [hsd]
    have g5 : (M.getD i.toNat default).n = s.n := by rw [hsd]
    refine Snd.of_run (X := Xf19) m1 (by decide +kernel) (by decide +kernel) 3000 (by decide +kernel) fun O1 hO1 => ?_
    cbv
    refine Br.mk (fun hlt => ?_) (fun hge => ?_)
    · rw [t_lss] at hlt
      simp only [E.i_sh] at hlt
      refine Ast.mk (by rw [t_leq]; exact hi0) (Ast.mk (by rw [t_lss]; exact hlt) (Ast.mk (by rw [t_lss]; exact hlt) ?_))
      refine Br.mk (fun hf => ?_) (fun hf => ?_)
      · rw [t_gtr] at hf
        have hf : t < s.frm := by rw [← g3]; exact hf
        refine Br.mk (fun hq => ?_) (fun hq => ?_)
        · rw [t_eql] at hq
          simp only [E.i_sh, E.i_lit] at hq
          omega
        have hdel : atB t (M.getD i.toNat default) = false := by rw [← hsd]; exact atB_f1 hf
        refine hO.lo (loop_rule' (ι := { y : Int × Int × List Sp // DelAt t M y.1 y.2.1 y.2.2 })
          (fun st y => ⟨liveK st.tmps [0, 1, 4] [(5, .int .i64 (.sh y.1.1)), (6, .int .i64 (.sh y.1.2.1))], [(3, true, .row 33 5 (.sh len) (spF y.1.2.2)), (1, true, .cells 3 [.int .i64 (.sh t)])], 5, []⟩)
          (fun y => (len - y.1.2.1).toNat) ⟨(i, i + 1, M), del_start hi0 (hltM hlt) hall hdel⟩ [] ?_ (fun h hh => by cases hh) (fun _ => rfl) fun y => ?_)
        · constructor
          · cbv; repeat' apply And.intro
            all_goals first | exact trivial | exact ⟨rfl⟩ | exact noCap | exact ⟨wrap64 (x := i + 1) (by omega) (by omega)⟩
          · cbv; repeat' apply And.intro
            all_goals first | exact trivial | exact ⟨rfl⟩ | exact fun h => h | rfl | exact fun e e' j h _ _ hj => rowL_le e e' j h hj | exact fun e e' j h _ _ hj => spF_le e e' j h hj
          · cbv
          · cbv
          · cbv
        · obtain ⟨⟨p, j, L⟩, hD⟩ := y
          have hp0 : 0 ≤ p := hD.i0
          have hpj : p ≤ j := hD.ij
          have hjM := hD.jn
          have hLM := hD.ll
          simp only at hjM hLM
          have hlen : len = (M.length : Int) := hlen
          have hjl : j ≤ len := by omega
          have hLl : len = (L.length : Int) := by omega
          have hltN : j < len → j < M.length := fun h => by omega
          have hpN : p < len → p < L.length := fun h => by omega
          have htk : j = len → L.take p.toNat = M.filter (atB t) := fun h => by
            have e : M.take j.toNat = M := List.take_of_length_le (by omega)
            rw [hD.tk, e]
          have hpL2 : p ≤ len → p ≤ L.length := fun h => by omega
          refine (?_ : ∀ s2, s2 = L.getD j.toNat default → _) _ rfl
          intro s2 hs2
          have hsM : s2 = M.getD j.toNat default := hs2.trans (hD.rest j.toNat (Nat.le_refl _))
          have k3 : (L.getD j.toNat default).frm = s2.frm := by rw [hs2]
          have k4 : (L.getD j.toNat default).to = s2.to := by rw [hs2]
          refine Snd.of_run (X := Xf19) m1 (by decide +kernel) (by decide +kernel) 3000 (by decide +kernel) fun O2 hO2 => ?_
          cbv
          refine Br.mk (fun hlt2 => ?_) (fun hge2 => ?_)
          · rw [t_lss] at hlt2
            simp only [E.i_sh] at hlt2
            have hj0 : 0 ≤ j := by omega
            have hpl : p < len := by omega
            have hpL := hpN hpl
            have h1 : (L.getD j.toNat default).core = (M.getD j.toNat default).core := by rw [← hs2, hsM]
            have h2 : (L.getD j.toNat default).kind = (M.getD j.toNat default).kind := by rw [← hs2, hsM]
            have h3 : (L.getD j.toNat default).frm = (M.getD j.toNat default).frm := by rw [← hs2, hsM]
            have h4 : (L.getD j.toNat default).to = (M.getD j.toNat default).to := by rw [← hs2, hsM]
            have h5 : (L.getD j.toNat default).n = (M.getD j.toNat default).n := by rw [← hs2, hsM]
            refine Ast.mk (by rw [t_leq]; exact hj0) (Ast.mk (by rw [t_lss]; exact hlt2) (Ast.mk (by rw [t_lss]; exact hlt2) ?_))
            refine Br.mk (fun hf2 => ?_) (fun hf2 => ?_)
            · rw [t_gtr] at hf2
              have hf2 : t < s2.frm := by rw [← k3]; exact hf2
              have hdl : atB t (M.getD j.toNat default) = false := by rw [← hsM]; exact atB_f1 hf2
              refine ⟨⟨(p, j + 1, L), del_drop hD (hltN hlt2) hdl⟩, [], ⟨?_, ?_, ?_, ?_, ?_⟩, ?_⟩
              · cbv; repeat' apply And.intro
                all_goals first | exact trivial | exact ⟨rfl⟩ | exact noCap | exact ⟨wrap64 (x := j + 1) (by omega) (by omega)⟩
              · cbv; repeat' apply And.intro
                all_goals first | exact trivial | exact ⟨rfl⟩ | exact fun h => h | rfl | exact fun e e' j h _ _ hj => rowL_le e e' j h hj | exact fun e e' j h _ _ hj => spF_le e e' j h hj
              · cbv
              · cbv
              · cbv
              · simp only; omega
            · rw [f_gtr] at hf2
              have hf2 : s2.frm ≤ t := by rw [← k3]; exact hf2
              refine Br.mk (fun ht2 => ?_) (fun ht2 => ?_)
              · rw [t_geq] at ht2
                have ht2 : 0 ≤ s2.to := by rw [← k4]; exact ht2
                refine Br.mk (fun ha2 => ?_) (fun ha2 => ?_)
                · rw [t_not, f_lss] at ha2
                  have ha2 : t ≤ s2.to := by rw [← k4]; exact ha2
                  have hkp : atB t (M.getD j.toNat default) = true := by rw [← hsM]; exact atB_t2 hf2 ha2
                  refine Ast.mk (by rw [t_leq]; exact hp0) (Ast.mk (by rw [t_lss]; exact hpl) (Ast.mk (by rw [t_lss]; exact hpl) ?_))
                  obtain ⟨L2, hL2⟩ : ∃ z, z = L.set p.toNat (M.getD j.toNat default) := ⟨_, rfl⟩
                  have hD2 := del_keep hD (hltN hlt2) hkp
                  rw [← hL2] at hD2
                  refine ⟨⟨(p + 1, j + 1, L2), hD2⟩, [], ⟨?_, ?_, ?_, ?_, ?_⟩, ?_⟩
                  · cbv; repeat' apply And.intro
                    all_goals first | exact trivial | exact ⟨rfl⟩ | exact noCap | exact ⟨wrap64 (x := j + 1) (by omega) (by omega)⟩ | exact ⟨wrap64 (x := p + 1) (by omega) (by omega)⟩
                  · cbv; repeat' apply And.intro
                    all_goals first | exact trivial | exact ⟨rfl⟩ | exact fun h => h | rfl | exact fun e e' j h _ _ hj => rowL_le e e' j h hj | exact fun e e' j h _ _ hj => spF_le e e' j h hj | (rw [hL2]; exact put5_le (L := L) (s := M.getD j.toNat default) (n := .sh len) (p := p) hLl rfl hp0 hpL h1 h2 h3 h4 h5) | trace_state
                  · cbv
                  · cbv
                  · cbv
                  · simp only; omega
                · rw [f_not, t_lss] at ha2
                  have ha2 : s2.to < t := by rw [← k4]; exact ha2
                  have hdl : atB t (M.getD j.toNat default) = false := by rw [← hsM]; exact atB_f2 ht2 ha2
                  refine ⟨⟨(p, j + 1, L), del_drop hD (hltN hlt2) hdl⟩, [], ⟨?_, ?_, ?_, ?_, ?_⟩, ?_⟩
                  · cbv; repeat' apply And.intro
                    all_goals first | exact trivial | exact ⟨rfl⟩ | exact noCap | exact ⟨wrap64 (x := j + 1) (by omega) (by omega)⟩
                  · cbv; repeat' apply And.intro
                    all_goals first | exact trivial | exact ⟨rfl⟩ | exact fun h => h | rfl | exact fun e e' j h _ _ hj => rowL_le e e' j h hj | exact fun e e' j h _ _ hj => spF_le e e' j h hj
                  · cbv
                  · cbv
                  · cbv
                  · simp only; omega
              · rw [f_geq] at ht2
                have ht2 : s2.to < 0 := by rw [← k4]; exact ht2
                have hkp : atB t (M.getD j.toNat default) = true := by rw [← hsM]; exact atB_t1 hf2 ht2
                refine Ast.mk (by rw [t_leq]; exact hp0) (Ast.mk (by rw [t_lss]; exact hpl) (Ast.mk (by rw [t_lss]; exact hpl) ?_))
                obtain ⟨L2, hL2⟩ : ∃ z, z = L.set p.toNat (M.getD j.toNat default) := ⟨_, rfl⟩
                have hD2 := del_keep hD (hltN hlt2) hkp
                rw [← hL2] at hD2
                refine ⟨⟨(p + 1, j + 1, L2), hD2⟩, [], ⟨?_, ?_, ?_, ?_, ?_⟩, ?_⟩
                · cbv; repeat' apply And.intro
                  all_goals first | exact trivial | exact ⟨rfl⟩ | exact noCap | exact ⟨wrap64 (x := j + 1) (by omega) (by omega)⟩ | exact ⟨wrap64 (x := p + 1) (by omega) (by omega)⟩
                · cbv; repeat' apply And.intro
                  all_goals first | exact trivial | exact ⟨rfl⟩ | exact fun h => h | rfl | exact fun e e' j h _ _ hj => rowL_le e e' j h hj | exact fun e e' j h _ _ hj => spF_le e e' j h hj | (rw [hL2]; exact put5_le (L := L) (s := M.getD j.toNat default) (n := .sh len) (p := p) hLl rfl hp0 hpL h1 h2 h3 h4 h5) | trace_state
                · cbv
                · cbv
                · cbv
                · simp only; omega
          · rw [f_lss] at hge2
            simp only [E.i_sh] at hge2
            have hjn : j = len := by omega
            have hpn : p ≤ len := by omega
            refine Ast.mk (by rw [t_leq]; exact hp0) (Ast.mk (by rw [t_leq]; exact hpn) (Ast.mk (by rw [t_leq]; exact hpn) (Ast.mk (by rw [t_leq]; exact hp0) (Ast.mk (by rw [t_leq]; exact hpn) ?_))))
            exact ⟨_, ⟨p, L, htk hjn, hp0, hpL2 hpn, rfl⟩, 3, by decide, rfl, rfl⟩
      · rw [f_gtr] at hf
        have hf : s.frm ≤ t := by rw [← g3]; exact hf
        refine Br.mk (fun ht => ?_) (fun ht => ?_)
        · rw [t_geq] at ht
          have ht : 0 ≤ s.to := by rw [← g4]; exact ht
          refine Br.mk (fun ha => ?_) (fun ha => ?_)
          · rw [t_lss] at ha
            have ha : s.to < t := by rw [← g4]; exact ha
            refine Br.mk (fun hq => ?_) (fun hq => ?_)
            · rw [t_eql] at hq
              simp only [E.i_sh, E.i_lit] at hq
              omega
            have hdel : atB t (M.getD i.toNat default) = false := by rw [← hsd]; exact atB_f2 ht ha
            refine hO.lo (loop_rule' (ι := { y : Int × Int × List Sp // DelAt t M y.1 y.2.1 y.2.2 })
              (fun st y => ⟨liveK st.tmps [0, 1, 4] [(5, .int .i64 (.sh y.1.1)), (6, .int .i64 (.sh y.1.2.1))], [(3, true, .row 33 5 (.sh len) (spF y.1.2.2)), (1, true, .cells 3 [.int .i64 (.sh t)])], 5, []⟩)
              (fun y => (len - y.1.2.1).toNat) ⟨(i, i + 1, M), del_start hi0 (hltM hlt) hall hdel⟩ [] ?_ (fun h hh => by cases hh) (fun _ => rfl) fun y => ?_)
            · constructor
              · cbv; repeat' apply And.intro
                all_goals first | exact trivial | exact ⟨rfl⟩ | exact noCap | exact ⟨wrap64 (x := i + 1) (by omega) (by omega)⟩
              · cbv; repeat' apply And.intro
                all_goals first | exact trivial | exact ⟨rfl⟩ | exact fun h => h | rfl | exact fun e e' j h _ _ hj => rowL_le e e' j h hj | exact fun e e' j h _ _ hj => spF_le e e' j h hj
              · cbv
              · cbv
              · cbv
            · obtain ⟨⟨p, j, L⟩, hD⟩ := y
              have hp0 : 0 ≤ p := hD.i0
              have hpj : p ≤ j := hD.ij
              have hjM := hD.jn
              have hLM := hD.ll
              simp only at hjM hLM
              have hlen : len = (M.length : Int) := hlen
              have hjl : j ≤ len := by omega
              have hLl : len = (L.length : Int) := by omega
              have hltN : j < len → j < M.length := fun h => by omega
              have hpN : p < len → p < L.length := fun h => by omega
              have htk : j = len → L.take p.toNat = M.filter (atB t) := fun h => by
                have e : M.take j.toNat = M := List.take_of_length_le (by omega)
                rw [hD.tk, e]
              have hpL2 : p ≤ len → p ≤ L.length := fun h => by omega
              refine (?_ : ∀ s2, s2 = L.getD j.toNat default → _) _ rfl
              intro s2 hs2
              have hsM : s2 = M.getD j.toNat default := hs2.trans (hD.rest j.toNat (Nat.le_refl _))
              have k3 : (L.getD j.toNat default).frm = s2.frm := by rw [hs2]
              have k4 : (L.getD j.toNat default).to = s2.to := by rw [hs2]
              refine Snd.of_run (X := Xf19) m1 (by decide +kernel) (by decide +kernel) 3000 (by decide +kernel) fun O2 hO2 => ?_
              cbv
              refine Br.mk (fun hlt2 => ?_) (fun hge2 => ?_)
              · rw [t_lss] at hlt2
                simp only [E.i_sh] at hlt2
                have hj0 : 0 ≤ j := by omega
                have hpl : p < len := by omega
                have hpL := hpN hpl
                have h1 : (L.getD j.toNat default).core = (M.getD j.toNat default).core := by rw [← hs2, hsM]
                have h2 : (L.getD j.toNat default).kind = (M.getD j.toNat default).kind := by rw [← hs2, hsM]
                have h3 : (L.getD j.toNat default).frm = (M.getD j.toNat default).frm := by rw [← hs2, hsM]
                have h4 : (L.getD j.toNat default).to = (M.getD j.toNat default).to := by rw [← hs2, hsM]
                have h5 : (L.getD j.toNat default).n = (M.getD j.toNat default).n := by rw [← hs2, hsM]
                refine Ast.mk (by rw [t_leq]; exact hj0) (Ast.mk (by rw [t_lss]; exact hlt2) (Ast.mk (by rw [t_lss]; exact hlt2) ?_))
                refine Br.mk (fun hf2 => ?_) (fun hf2 => ?_)
                · rw [t_gtr] at hf2
                  have hf2 : t < s2.frm := by rw [← k3]; exact hf2
                  have hdl : atB t (M.getD j.toNat default) = false := by rw [← hsM]; exact atB_f1 hf2
                  refine ⟨⟨(p, j + 1, L), del_drop hD (hltN hlt2) hdl⟩, [], ⟨?_, ?_, ?_, ?_, ?_⟩, ?_⟩
                  · cbv; repeat' apply And.intro
                    all_goals first | exact trivial | exact ⟨rfl⟩ | exact noCap | exact ⟨wrap64 (x := j + 1) (by omega) (by omega)⟩
                  · cbv; repeat' apply And.intro
                    all_goals first | exact trivial | exact ⟨rfl⟩ | exact fun h => h | rfl | exact fun e e' j h _ _ hj => rowL_le e e' j h hj | exact fun e e' j h _ _ hj => spF_le e e' j h hj
                  · cbv
                  · cbv
                  · cbv
                  · simp only; omega
                · rw [f_gtr] at hf2
                  have hf2 : s2.frm ≤ t := by rw [← k3]; exact hf2
                  refine Br.mk (fun ht2 => ?_) (fun ht2 => ?_)
                  · rw [t_geq] at ht2
                    have ht2 : 0 ≤ s2.to := by rw [← k4]; exact ht2
                    refine Br.mk (fun ha2 => ?_) (fun ha2 => ?_)
                    · rw [t_not, f_lss] at ha2
                      have ha2 : t ≤ s2.to := by rw [← k4]; exact ha2
                      have hkp : atB t (M.getD j.toNat default) = true := by rw [← hsM]; exact atB_t2 hf2 ha2
                      refine Ast.mk (by rw [t_leq]; exact hp0) (Ast.mk (by rw [t_lss]; exact hpl) (Ast.mk (by rw [t_lss]; exact hpl) ?_))
                      obtain ⟨L2, hL2⟩ : ∃ z, z = L.set p.toNat (M.getD j.toNat default) := ⟨_, rfl⟩
                      have hD2 := del_keep hD (hltN hlt2) hkp
                      rw [← hL2] at hD2
                      refine ⟨⟨(p + 1, j + 1, L2), hD2⟩, [], ⟨?_, ?_, ?_, ?_, ?_⟩, ?_⟩
                      · cbv; repeat' apply And.intro
                        all_goals first | exact trivial | exact ⟨rfl⟩ | exact noCap | exact ⟨wrap64 (x := j + 1) (by omega) (by omega)⟩ | exact ⟨wrap64 (x := p + 1) (by omega) (by omega)⟩
                      · cbv; repeat' apply And.intro
                        all_goals first | exact trivial | exact ⟨rfl⟩ | exact fun h => h | rfl | exact fun e e' j h _ _ hj => rowL_le e e' j h hj | exact fun e e' j h _ _ hj => spF_le e e' j h hj | (rw [hL2]; exact put5_le (L := L) (s := M.getD j.toNat default) (n := .sh len) (p := p) hLl rfl hp0 hpL h1 h2 h3 h4 h5) | trace_state
                      · cbv
                      · cbv
                      · cbv
                      · simp only; omega
                    · rw [f_not, t_lss] at ha2
                      have ha2 : s2.to < t := by rw [← k4]; exact ha2
                      have hdl : atB t (M.getD j.toNat default) = false := by rw [← hsM]; exact atB_f2 ht2 ha2
                      refine ⟨⟨(p, j + 1, L), del_drop hD (hltN hlt2) hdl⟩, [], ⟨?_, ?_, ?_, ?_, ?_⟩, ?_⟩
                      · cbv; repeat' apply And.intro
                        all_goals first | exact trivial | exact ⟨rfl⟩ | exact noCap | exact ⟨wrap64 (x := j + 1) (by omega) (by omega)⟩
                      · cbv; repeat' apply And.intro
                        all_goals first | exact trivial | exact ⟨rfl⟩ | exact fun h => h | rfl | exact fun e e' j h _ _ hj => rowL_le e e' j h hj | exact fun e e' j h _ _ hj => spF_le e e' j h hj
                      · cbv
                      · cbv
                      · cbv
                      · simp only; omega
                  · rw [f_geq] at ht2
                    have ht2 : s2.to < 0 := by rw [← k4]; exact ht2
                    have hkp : atB t (M.getD j.toNat default) = true := by rw [← hsM]; exact atB_t1 hf2 ht2
                    refine Ast.mk (by rw [t_leq]; exact hp0) (Ast.mk (by rw [t_lss]; exact hpl) (Ast.mk (by rw [t_lss]; exact hpl) ?_))
                    obtain ⟨L2, hL2⟩ : ∃ z, z = L.set p.toNat (M.getD j.toNat default) := ⟨_, rfl⟩
                    have hD2 := del_keep hD (hltN hlt2) hkp
                    rw [← hL2] at hD2
                    refine ⟨⟨(p + 1, j + 1, L2), hD2⟩, [], ⟨?_, ?_, ?_, ?_, ?_⟩, ?_⟩
                    · cbv; repeat' apply And.intro
                      all_goals first | exact trivial | exact ⟨rfl⟩ | exact noCap | exact ⟨wrap64 (x := j + 1) (by omega) (by omega)⟩ | exact ⟨wrap64 (x := p + 1) (by omega) (by omega)⟩
                    · cbv; repeat' apply And.intro
                      all_goals first | exact trivial | exact ⟨rfl⟩ | exact fun h => h | rfl | exact fun e e' j h _ _ hj => rowL_le e e' j h hj | exact fun e e' j h _ _ hj => spF_le e e' j h hj | (rw [hL2]; exact put5_le (L := L) (s := M.getD j.toNat default) (n := .sh len) (p := p) hLl rfl hp0 hpL h1 h2 h3 h4 h5) | trace_state
                    · cbv
                    · cbv
                    · cbv
                    · simp only; omega
              · rw [f_lss] at hge2
                simp only [E.i_sh] at hge2
                have hjn : j = len := by omega
                have hpn : p ≤ len := by omega
                refine Ast.mk (by rw [t_leq]; exact hp0) (Ast.mk (by rw [t_leq]; exact hpn) (Ast.mk (by rw [t_leq]; exact hpn) (Ast.mk (by rw [t_leq]; exact hp0) (Ast.mk (by rw [t_leq]; exact hpn) ?_))))
                exact ⟨_, ⟨p, L, htk hjn, hp0, hpL2 hpn, rfl⟩, 3, by decide, rfl, rfl⟩
          · rw [f_lss] at ha
            have ha : t ≤ s.to := by rw [← g4]; exact ha
            have hkeep : atB t (M.getD i.toNat default) = true := by rw [← hsd]; simp [atB, hf, ha]
            refine ⟨⟨i + 1, by omega, by omega, fun x h1 h2 => ?_⟩, [], ⟨?_, ?_, ?_, ?_, ?_⟩, ?_⟩
            · rcases Int.lt_or_eq_of_le (Int.le_of_lt_add_one h2) with h3 | h3
              · exact hall x h1 h3
              · rw [h3]; exact hkeep
            · cbv; repeat' apply And.intro
              all_goals first | exact trivial | exact ⟨rfl⟩ | exact noCap | exact ⟨wrap64 (x := i + 1) (by omega) (by omega)⟩
            · cbv; repeat' apply And.intro
              all_goals first | exact trivial | exact fun h => h | exact ⟨rfl⟩ | exact noCap | rfl | exact fun e e' j h _ _ hj => rowL_le e e' j h hj | exact fun e e' j h _ _ hj => spF_le e e' j h hj
            · cbv
            · cbv
            · cbv
            · simp only; omega
        · rw [f_geq] at ht
          have ht : s.to < 0 := by rw [← g4]; exact ht
          have hkeep : atB t (M.getD i.toNat default) = true := by rw [← hsd]; simp [atB, hf, ht]
          refine ⟨⟨i + 1, by omega, by omega, fun x h1 h2 => ?_⟩, [], ⟨?_, ?_, ?_, ?_, ?_⟩, ?_⟩
          · rcases Int.lt_or_eq_of_le (Int.le_of_lt_add_one h2) with h3 | h3
            · exact hall x h1 h3
            · rw [h3]; exact hkeep
          · cbv; repeat' apply And.intro
            all_goals first | exact trivial | exact ⟨rfl⟩ | exact noCap | exact ⟨wrap64 (x := i + 1) (by omega) (by omega)⟩
          · cbv; repeat' apply And.intro
            all_goals first | exact trivial | exact fun h => h | exact ⟨rfl⟩ | exact noCap | rfl | exact fun e e' j h _ _ hj => rowL_le e e' j h hj | exact fun e e' j h _ _ hj => spF_le e e' j h hj
          · cbv
          · cbv
          · cbv
          · simp only; omega
    · rw [f_lss] at hge
      simp only [E.i_sh] at hge
      exact ⟨_, ⟨len, M, hend (by omega), hlen0, hlenM, rfl⟩, 3, by decide, rfl, rfl⟩
theorem spec_at_bad (h0 : 0 ≤ n) (hN : n ≤ 300) (hmay : mayB n tm core kind = false) : Spec PP 19 [.sl 0 5 (.c 0) (.sh n) none, .int .i64 (.sh c), .int .i64 (.sh t)] [(0, false, .row 31 5 (.sh n) (rowL tm core kind fk flat))] 1
    (fun out => out = .val (.tup [.lit (.slice none 0 0), .int .i64 (.lit 2)])) := by
  intro C
  refine CallOb.of_run (X := Xf19b) m1 (by decide +kernel) (by decide +kernel) 3000 fun O hO => ?_
  cbv
  refine hO.co (Spec.call (spec_all_bad n n 1 tm core kind fk flat (listI [c]) h0 (Int.le_refl _) (by omega) hmay) [.of 0, .of 2] rfl rfl ?_ ?_ (fun out ho => ?_) (fun out ho => ?_))
  · cbv; repeat' apply And.intro
    all_goals first | exact trivial | exact ⟨rfl⟩ | exact noCap
  · exact ⟨⟨(fun h => by cases h), one_row rfl⟩, ⟨fun h => h, rfl, ⟨rfl⟩, fun e e' j h _ _ hj => rowL_le e e' j h hj⟩, trivial⟩
  · subst ho; exact plain_of rfl
  subst ho
  cbv
  first
    | exact ⟨_, rfl, rfl⟩
    | trace_state
end
end Go.Sx
