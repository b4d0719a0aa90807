/- Plain twins of functions, with their contracts. Printed by a program of this session. -/
import Derived.Test.YtplcjfnobdlkeaaR1F1
set_option linter.unusedVariables false
namespace Go.Proofs.Ytplcjfnobdlkeaa.R
open Go.Proofs.Ytplcjfnobdlkeaa.R1
/-! impl.stacker).place -/
def f31a_l2 {ρ : Type} (k : Nat) : Nat → (List Int) → Int → Int → Int → Bool → Bool → Bool → Bool → Bool → (List Int) → (List Int) → (List Int) → (List Int) → (List Int) → Int → (List (Int × Int)) → (List (Int × Int)) → (List (Int × Int)) → (List (Int × Int)) → (List (Int × Int)) → (List (List Int)) → (((Unit × ((Int × Bool × Bool × Bool × Bool × Bool × (List Int) × (List Int) × (List Int) × (List Int) × (List Int) × ((Unit × Unit) × Int) × Unit) × (List (Int × Int)) × (List (Int × Int)) × (List (Int × Int)) × (List (Int × Int)) × (List (Int × Int)) × (Unit × Unit) × (List (List Int)) × Unit)) → Option ρ) × (((Bool × Unit) × ((Int × Bool × Bool × Bool × Bool × Bool × (List Int) × (List Int) × (List Int) × (List Int) × (List Int) × ((Unit × Unit) × Int) × Unit) × (List (Int × Int)) × (List (Int × Int)) × (List (Int × Int)) × (List (Int × Int)) × (List (Int × Int)) × (Unit × Unit) × (List (List Int)) × Unit)) → Option ρ) × Unit) → Option ρ
  | 0, _, _, _, _, _, _, _, _, _, _, _, _, _, _, _, _, _, _, _, _, _, _ => none
  | j + 1, v131, v132, v133, v134, v135, v136, v137, v138, v139, v140, v141, v142, v143, v144, v145, v146, v147, v148, v149, v150, v151, nx =>
    bif (decide (v133 ≤ 4)) then
      bif decide (v133 = 0) then
        let x236 : (Option Int) := (mapGet (fun (a b : Int) => a == b) v132 v146)
        bif decide (v133 = 0) then
          bif (!x236.isSome) then
            f31a_l2 k j v131 v132 (wr .i64 (v133 + 1)) v134 v135 v136 v137 v138 v139 v140 v141 v142 v143 v144 v145 v146 v147 v148 v149 v150 v151 nx
          else
            (f30 k v131 (x236.getD 0)).bind fun x253 =>
            bif (!x253.1.1) then
              (f32 k v140).bind fun x254 =>
              bif decide ((x254.2.1.length + [v132].length) * 8 ≤ roomy) then
                bif decide (v133 = 0) then
                  f31a_l2 k j v131 v132 (wr .i64 (v133 + 1)) v134 v135 v136 v137 v138 v139 (x254.2.1 ++ [v132]) v141 v142 v143 v144 v145 v146 v147 v148 v149 v150 v151 nx
                else
                  bif decide (v133 = 1) then
                    f31a_l2 k j v131 v132 (wr .i64 (v133 + 1)) v134 v135 v136 v137 v138 v139 v140 (x254.2.1 ++ [v132]) v142 v143 v144 v145 v146 v147 v148 v149 v150 v151 nx
                  else
                    bif decide (v133 = 2) then
                      f31a_l2 k j v131 v132 (wr .i64 (v133 + 1)) v134 v135 v136 v137 v138 v139 v140 v141 (x254.2.1 ++ [v132]) v143 v144 v145 v146 v147 v148 v149 v150 v151 nx
                    else
                      bif decide (v133 = 3) then
                        f31a_l2 k j v131 v132 (wr .i64 (v133 + 1)) v134 v135 v136 v137 v138 v139 v140 v141 v142 (x254.2.1 ++ [v132]) v144 v145 v146 v147 v148 v149 v150 v151 nx
                      else
                        bif decide (v133 = 4) then
                          f31a_l2 k j v131 v132 (wr .i64 (v133 + 1)) v134 v135 v136 v137 v138 v139 v140 v141 v142 v143 (x254.2.1 ++ [v132]) v145 v146 v147 v148 v149 v150 v151 nx
                        else
                          none
              else
                none
            else
              (getI v140 (wr .i64 ((v140.length : Int) - 1))).bind fun x255 =>
              bif (x255 != (x236.getD 0)) then
                nx.2.1 ((false, ()), ((v134, v135, v136, v137, v138, v139, v140, v141, v142, v143, v144, (((), ()), v145), ()), v146, v147, v148, v149, v150, ((), ()), v151, ()))
              else
                bif decide (0 ≤ 0) && decide (0 ≤ (wr .i64 ((v140.length : Int) - 1))) && decide ((wr .i64 ((v140.length : Int) - 1)) ≤ (v140.length : Int)) then
                  let x256 : (List Int) := (sub v140 0 (wr .i64 ((v140.length : Int) - 1)))
                  bif decide (v133 = 0) then
                    f31a_l2 k j v131 v132 (wr .i64 (v133 + 1)) v134 v135 v136 v137 v138 v139 x256 v141 v142 v143 v144 v145 v146 v147 v148 v149 v150 v151 nx
                  else
                    bif decide (v133 = 1) then
                      f31a_l2 k j v131 v132 (wr .i64 (v133 + 1)) v134 v135 v136 v137 v138 v139 v140 x256 v142 v143 v144 v145 v146 v147 v148 v149 v150 v151 nx
                    else
                      bif decide (v133 = 2) then
                        f31a_l2 k j v131 v132 (wr .i64 (v133 + 1)) v134 v135 v136 v137 v138 v139 v140 v141 x256 v143 v144 v145 v146 v147 v148 v149 v150 v151 nx
                      else
                        bif decide (v133 = 3) then
                          f31a_l2 k j v131 v132 (wr .i64 (v133 + 1)) v134 v135 v136 v137 v138 v139 v140 v141 v142 x256 v144 v145 v146 v147 v148 v149 v150 v151 nx
                        else
                          bif decide (v133 = 4) then
                            f31a_l2 k j v131 v132 (wr .i64 (v133 + 1)) v134 v135 v136 v137 v138 v139 v140 v141 v142 v143 x256 v145 v146 v147 v148 v149 v150 v151 nx
                          else
                            none
                else
                  none
        else
          bif decide (v133 = 1) then
            bif (!x236.isSome) then
              f31a_l2 k j v131 v132 (wr .i64 (v133 + 1)) v134 v135 v136 v137 v138 v139 v140 v141 v142 v143 v144 v145 v146 v147 v148 v149 v150 v151 nx
            else
              (f30 k v131 (x236.getD 0)).bind fun x249 =>
              bif (!x249.1.1) then
                (f32 k v141).bind fun x250 =>
                bif decide ((x250.2.1.length + [v132].length) * 8 ≤ roomy) then
                  bif decide (v133 = 0) then
                    f31a_l2 k j v131 v132 (wr .i64 (v133 + 1)) v134 v135 v136 v137 v138 v139 (x250.2.1 ++ [v132]) v141 v142 v143 v144 v145 v146 v147 v148 v149 v150 v151 nx
                  else
                    bif decide (v133 = 1) then
                      f31a_l2 k j v131 v132 (wr .i64 (v133 + 1)) v134 v135 v136 v137 v138 v139 v140 (x250.2.1 ++ [v132]) v142 v143 v144 v145 v146 v147 v148 v149 v150 v151 nx
                    else
                      bif decide (v133 = 2) then
                        f31a_l2 k j v131 v132 (wr .i64 (v133 + 1)) v134 v135 v136 v137 v138 v139 v140 v141 (x250.2.1 ++ [v132]) v143 v144 v145 v146 v147 v148 v149 v150 v151 nx
                      else
                        bif decide (v133 = 3) then
                          f31a_l2 k j v131 v132 (wr .i64 (v133 + 1)) v134 v135 v136 v137 v138 v139 v140 v141 v142 (x250.2.1 ++ [v132]) v144 v145 v146 v147 v148 v149 v150 v151 nx
                        else
                          bif decide (v133 = 4) then
                            f31a_l2 k j v131 v132 (wr .i64 (v133 + 1)) v134 v135 v136 v137 v138 v139 v140 v141 v142 v143 (x250.2.1 ++ [v132]) v145 v146 v147 v148 v149 v150 v151 nx
                          else
                            none
                else
                  none
              else
                (getI v141 (wr .i64 ((v141.length : Int) - 1))).bind fun x251 =>
                bif (x251 != (x236.getD 0)) then
                  nx.2.1 ((false, ()), ((v134, v135, v136, v137, v138, v139, v140, v141, v142, v143, v144, (((), ()), v145), ()), v146, v147, v148, v149, v150, ((), ()), v151, ()))
                else
                  bif decide (0 ≤ 0) && decide (0 ≤ (wr .i64 ((v141.length : Int) - 1))) && decide ((wr .i64 ((v141.length : Int) - 1)) ≤ (v141.length : Int)) then
                    let x252 : (List Int) := (sub v141 0 (wr .i64 ((v141.length : Int) - 1)))
                    bif decide (v133 = 0) then
                      f31a_l2 k j v131 v132 (wr .i64 (v133 + 1)) v134 v135 v136 v137 v138 v139 x252 v141 v142 v143 v144 v145 v146 v147 v148 v149 v150 v151 nx
                    else
                      bif decide (v133 = 1) then
                        f31a_l2 k j v131 v132 (wr .i64 (v133 + 1)) v134 v135 v136 v137 v138 v139 v140 x252 v142 v143 v144 v145 v146 v147 v148 v149 v150 v151 nx
                      else
                        bif decide (v133 = 2) then
                          f31a_l2 k j v131 v132 (wr .i64 (v133 + 1)) v134 v135 v136 v137 v138 v139 v140 v141 x252 v143 v144 v145 v146 v147 v148 v149 v150 v151 nx
                        else
                          bif decide (v133 = 3) then
                            f31a_l2 k j v131 v132 (wr .i64 (v133 + 1)) v134 v135 v136 v137 v138 v139 v140 v141 v142 x252 v144 v145 v146 v147 v148 v149 v150 v151 nx
                          else
                            bif decide (v133 = 4) then
                              f31a_l2 k j v131 v132 (wr .i64 (v133 + 1)) v134 v135 v136 v137 v138 v139 v140 v141 v142 v143 x252 v145 v146 v147 v148 v149 v150 v151 nx
                            else
                              none
                  else
                    none
          else
            bif decide (v133 = 2) then
              bif (!x236.isSome) then
                f31a_l2 k j v131 v132 (wr .i64 (v133 + 1)) v134 v135 v136 v137 v138 v139 v140 v141 v142 v143 v144 v145 v146 v147 v148 v149 v150 v151 nx
              else
                (f30 k v131 (x236.getD 0)).bind fun x245 =>
                bif (!x245.1.1) then
                  (f32 k v142).bind fun x246 =>
                  bif decide ((x246.2.1.length + [v132].length) * 8 ≤ roomy) then
                    bif decide (v133 = 0) then
                      f31a_l2 k j v131 v132 (wr .i64 (v133 + 1)) v134 v135 v136 v137 v138 v139 (x246.2.1 ++ [v132]) v141 v142 v143 v144 v145 v146 v147 v148 v149 v150 v151 nx
                    else
                      bif decide (v133 = 1) then
                        f31a_l2 k j v131 v132 (wr .i64 (v133 + 1)) v134 v135 v136 v137 v138 v139 v140 (x246.2.1 ++ [v132]) v142 v143 v144 v145 v146 v147 v148 v149 v150 v151 nx
                      else
                        bif decide (v133 = 2) then
                          f31a_l2 k j v131 v132 (wr .i64 (v133 + 1)) v134 v135 v136 v137 v138 v139 v140 v141 (x246.2.1 ++ [v132]) v143 v144 v145 v146 v147 v148 v149 v150 v151 nx
                        else
                          bif decide (v133 = 3) then
                            f31a_l2 k j v131 v132 (wr .i64 (v133 + 1)) v134 v135 v136 v137 v138 v139 v140 v141 v142 (x246.2.1 ++ [v132]) v144 v145 v146 v147 v148 v149 v150 v151 nx
                          else
                            bif decide (v133 = 4) then
                              f31a_l2 k j v131 v132 (wr .i64 (v133 + 1)) v134 v135 v136 v137 v138 v139 v140 v141 v142 v143 (x246.2.1 ++ [v132]) v145 v146 v147 v148 v149 v150 v151 nx
                            else
                              none
                  else
                    none
                else
                  (getI v142 (wr .i64 ((v142.length : Int) - 1))).bind fun x247 =>
                  bif (x247 != (x236.getD 0)) then
                    nx.2.1 ((false, ()), ((v134, v135, v136, v137, v138, v139, v140, v141, v142, v143, v144, (((), ()), v145), ()), v146, v147, v148, v149, v150, ((), ()), v151, ()))
                  else
                    bif decide (0 ≤ 0) && decide (0 ≤ (wr .i64 ((v142.length : Int) - 1))) && decide ((wr .i64 ((v142.length : Int) - 1)) ≤ (v142.length : Int)) then
                      let x248 : (List Int) := (sub v142 0 (wr .i64 ((v142.length : Int) - 1)))
                      bif decide (v133 = 0) then
                        f31a_l2 k j v131 v132 (wr .i64 (v133 + 1)) v134 v135 v136 v137 v138 v139 x248 v141 v142 v143 v144 v145 v146 v147 v148 v149 v150 v151 nx
                      else
                        bif decide (v133 = 1) then
                          f31a_l2 k j v131 v132 (wr .i64 (v133 + 1)) v134 v135 v136 v137 v138 v139 v140 x248 v142 v143 v144 v145 v146 v147 v148 v149 v150 v151 nx
                        else
                          bif decide (v133 = 2) then
                            f31a_l2 k j v131 v132 (wr .i64 (v133 + 1)) v134 v135 v136 v137 v138 v139 v140 v141 x248 v143 v144 v145 v146 v147 v148 v149 v150 v151 nx
                          else
                            bif decide (v133 = 3) then
                              f31a_l2 k j v131 v132 (wr .i64 (v133 + 1)) v134 v135 v136 v137 v138 v139 v140 v141 v142 x248 v144 v145 v146 v147 v148 v149 v150 v151 nx
                            else
                              bif decide (v133 = 4) then
                                f31a_l2 k j v131 v132 (wr .i64 (v133 + 1)) v134 v135 v136 v137 v138 v139 v140 v141 v142 v143 x248 v145 v146 v147 v148 v149 v150 v151 nx
                              else
                                none
                    else
                      none
            else
              bif decide (v133 = 3) then
                bif (!x236.isSome) then
                  f31a_l2 k j v131 v132 (wr .i64 (v133 + 1)) v134 v135 v136 v137 v138 v139 v140 v141 v142 v143 v144 v145 v146 v147 v148 v149 v150 v151 nx
                else
                  (f30 k v131 (x236.getD 0)).bind fun x241 =>
                  bif (!x241.1.1) then
                    (f32 k v143).bind fun x242 =>
                    bif decide ((x242.2.1.length + [v132].length) * 8 ≤ roomy) then
                      bif decide (v133 = 0) then
                        f31a_l2 k j v131 v132 (wr .i64 (v133 + 1)) v134 v135 v136 v137 v138 v139 (x242.2.1 ++ [v132]) v141 v142 v143 v144 v145 v146 v147 v148 v149 v150 v151 nx
                      else
                        bif decide (v133 = 1) then
                          f31a_l2 k j v131 v132 (wr .i64 (v133 + 1)) v134 v135 v136 v137 v138 v139 v140 (x242.2.1 ++ [v132]) v142 v143 v144 v145 v146 v147 v148 v149 v150 v151 nx
                        else
                          bif decide (v133 = 2) then
                            f31a_l2 k j v131 v132 (wr .i64 (v133 + 1)) v134 v135 v136 v137 v138 v139 v140 v141 (x242.2.1 ++ [v132]) v143 v144 v145 v146 v147 v148 v149 v150 v151 nx
                          else
                            bif decide (v133 = 3) then
                              f31a_l2 k j v131 v132 (wr .i64 (v133 + 1)) v134 v135 v136 v137 v138 v139 v140 v141 v142 (x242.2.1 ++ [v132]) v144 v145 v146 v147 v148 v149 v150 v151 nx
                            else
                              bif decide (v133 = 4) then
                                f31a_l2 k j v131 v132 (wr .i64 (v133 + 1)) v134 v135 v136 v137 v138 v139 v140 v141 v142 v143 (x242.2.1 ++ [v132]) v145 v146 v147 v148 v149 v150 v151 nx
                              else
                                none
                    else
                      none
                  else
                    (getI v143 (wr .i64 ((v143.length : Int) - 1))).bind fun x243 =>
                    bif (x243 != (x236.getD 0)) then
                      nx.2.1 ((false, ()), ((v134, v135, v136, v137, v138, v139, v140, v141, v142, v143, v144, (((), ()), v145), ()), v146, v147, v148, v149, v150, ((), ()), v151, ()))
                    else
                      bif decide (0 ≤ 0) && decide (0 ≤ (wr .i64 ((v143.length : Int) - 1))) && decide ((wr .i64 ((v143.length : Int) - 1)) ≤ (v143.length : Int)) then
                        let x244 : (List Int) := (sub v143 0 (wr .i64 ((v143.length : Int) - 1)))
                        bif decide (v133 = 0) then
                          f31a_l2 k j v131 v132 (wr .i64 (v133 + 1)) v134 v135 v136 v137 v138 v139 x244 v141 v142 v143 v144 v145 v146 v147 v148 v149 v150 v151 nx
                        else
                          bif decide (v133 = 1) then
                            f31a_l2 k j v131 v132 (wr .i64 (v133 + 1)) v134 v135 v136 v137 v138 v139 v140 x244 v142 v143 v144 v145 v146 v147 v148 v149 v150 v151 nx
                          else
                            bif decide (v133 = 2) then
                              f31a_l2 k j v131 v132 (wr .i64 (v133 + 1)) v134 v135 v136 v137 v138 v139 v140 v141 x244 v143 v144 v145 v146 v147 v148 v149 v150 v151 nx
                            else
                              bif decide (v133 = 3) then
                                f31a_l2 k j v131 v132 (wr .i64 (v133 + 1)) v134 v135 v136 v137 v138 v139 v140 v141 v142 x244 v144 v145 v146 v147 v148 v149 v150 v151 nx
                              else
                                bif decide (v133 = 4) then
                                  f31a_l2 k j v131 v132 (wr .i64 (v133 + 1)) v134 v135 v136 v137 v138 v139 v140 v141 v142 v143 x244 v145 v146 v147 v148 v149 v150 v151 nx
                                else
                                  none
                      else
                        none
              else
                bif decide (v133 = 4) then
                  bif (!x236.isSome) then
                    f31a_l2 k j v131 v132 (wr .i64 (v133 + 1)) v134 v135 v136 v137 v138 v139 v140 v141 v142 v143 v144 v145 v146 v147 v148 v149 v150 v151 nx
                  else
                    (f30 k v131 (x236.getD 0)).bind fun x237 =>
                    bif (!x237.1.1) then
                      (f32 k v144).bind fun x238 =>
                      bif decide ((x238.2.1.length + [v132].length) * 8 ≤ roomy) then
                        bif decide (v133 = 0) then
                          f31a_l2 k j v131 v132 (wr .i64 (v133 + 1)) v134 v135 v136 v137 v138 v139 (x238.2.1 ++ [v132]) v141 v142 v143 v144 v145 v146 v147 v148 v149 v150 v151 nx
                        else
                          bif decide (v133 = 1) then
                            f31a_l2 k j v131 v132 (wr .i64 (v133 + 1)) v134 v135 v136 v137 v138 v139 v140 (x238.2.1 ++ [v132]) v142 v143 v144 v145 v146 v147 v148 v149 v150 v151 nx
                          else
                            bif decide (v133 = 2) then
                              f31a_l2 k j v131 v132 (wr .i64 (v133 + 1)) v134 v135 v136 v137 v138 v139 v140 v141 (x238.2.1 ++ [v132]) v143 v144 v145 v146 v147 v148 v149 v150 v151 nx
                            else
                              bif decide (v133 = 3) then
                                f31a_l2 k j v131 v132 (wr .i64 (v133 + 1)) v134 v135 v136 v137 v138 v139 v140 v141 v142 (x238.2.1 ++ [v132]) v144 v145 v146 v147 v148 v149 v150 v151 nx
                              else
                                bif decide (v133 = 4) then
                                  f31a_l2 k j v131 v132 (wr .i64 (v133 + 1)) v134 v135 v136 v137 v138 v139 v140 v141 v142 v143 (x238.2.1 ++ [v132]) v145 v146 v147 v148 v149 v150 v151 nx
                                else
                                  none
                      else
                        none
                    else
                      (getI v144 (wr .i64 ((v144.length : Int) - 1))).bind fun x239 =>
                      bif (x239 != (x236.getD 0)) then
                        nx.2.1 ((false, ()), ((v134, v135, v136, v137, v138, v139, v140, v141, v142, v143, v144, (((), ()), v145), ()), v146, v147, v148, v149, v150, ((), ()), v151, ()))
                      else
                        bif decide (0 ≤ 0) && decide (0 ≤ (wr .i64 ((v144.length : Int) - 1))) && decide ((wr .i64 ((v144.length : Int) - 1)) ≤ (v144.length : Int)) then
                          let x240 : (List Int) := (sub v144 0 (wr .i64 ((v144.length : Int) - 1)))
                          bif decide (v133 = 0) then
                            f31a_l2 k j v131 v132 (wr .i64 (v133 + 1)) v134 v135 v136 v137 v138 v139 x240 v141 v142 v143 v144 v145 v146 v147 v148 v149 v150 v151 nx
                          else
                            bif decide (v133 = 1) then
                              f31a_l2 k j v131 v132 (wr .i64 (v133 + 1)) v134 v135 v136 v137 v138 v139 v140 x240 v142 v143 v144 v145 v146 v147 v148 v149 v150 v151 nx
                            else
                              bif decide (v133 = 2) then
                                f31a_l2 k j v131 v132 (wr .i64 (v133 + 1)) v134 v135 v136 v137 v138 v139 v140 v141 x240 v143 v144 v145 v146 v147 v148 v149 v150 v151 nx
                              else
                                bif decide (v133 = 3) then
                                  f31a_l2 k j v131 v132 (wr .i64 (v133 + 1)) v134 v135 v136 v137 v138 v139 v140 v141 v142 x240 v144 v145 v146 v147 v148 v149 v150 v151 nx
                                else
                                  bif decide (v133 = 4) then
                                    f31a_l2 k j v131 v132 (wr .i64 (v133 + 1)) v134 v135 v136 v137 v138 v139 v140 v141 v142 v143 x240 v145 v146 v147 v148 v149 v150 v151 nx
                                  else
                                    none
                        else
                          none
                else
                  none
      else
        bif decide (v133 = 1) then
          let x215 : (Option Int) := (mapGet (fun (a b : Int) => a == b) v132 v147)
          bif decide (v133 = 0) then
            bif (!x215.isSome) then
              f31a_l2 k j v131 v132 (wr .i64 (v133 + 1)) v134 v135 v136 v137 v138 v139 v140 v141 v142 v143 v144 v145 v146 v147 v148 v149 v150 v151 nx
            else
              (f30 k v131 (x215.getD 0)).bind fun x232 =>
              bif (!x232.1.1) then
                (f32 k v140).bind fun x233 =>
                bif decide ((x233.2.1.length + [v132].length) * 8 ≤ roomy) then
                  bif decide (v133 = 0) then
                    f31a_l2 k j v131 v132 (wr .i64 (v133 + 1)) v134 v135 v136 v137 v138 v139 (x233.2.1 ++ [v132]) v141 v142 v143 v144 v145 v146 v147 v148 v149 v150 v151 nx
                  else
                    bif decide (v133 = 1) then
                      f31a_l2 k j v131 v132 (wr .i64 (v133 + 1)) v134 v135 v136 v137 v138 v139 v140 (x233.2.1 ++ [v132]) v142 v143 v144 v145 v146 v147 v148 v149 v150 v151 nx
                    else
                      bif decide (v133 = 2) then
                        f31a_l2 k j v131 v132 (wr .i64 (v133 + 1)) v134 v135 v136 v137 v138 v139 v140 v141 (x233.2.1 ++ [v132]) v143 v144 v145 v146 v147 v148 v149 v150 v151 nx
                      else
                        bif decide (v133 = 3) then
                          f31a_l2 k j v131 v132 (wr .i64 (v133 + 1)) v134 v135 v136 v137 v138 v139 v140 v141 v142 (x233.2.1 ++ [v132]) v144 v145 v146 v147 v148 v149 v150 v151 nx
                        else
                          bif decide (v133 = 4) then
                            f31a_l2 k j v131 v132 (wr .i64 (v133 + 1)) v134 v135 v136 v137 v138 v139 v140 v141 v142 v143 (x233.2.1 ++ [v132]) v145 v146 v147 v148 v149 v150 v151 nx
                          else
                            none
                else
                  none
              else
                (getI v140 (wr .i64 ((v140.length : Int) - 1))).bind fun x234 =>
                bif (x234 != (x215.getD 0)) then
                  nx.2.1 ((false, ()), ((v134, v135, v136, v137, v138, v139, v140, v141, v142, v143, v144, (((), ()), v145), ()), v146, v147, v148, v149, v150, ((), ()), v151, ()))
                else
                  bif decide (0 ≤ 0) && decide (0 ≤ (wr .i64 ((v140.length : Int) - 1))) && decide ((wr .i64 ((v140.length : Int) - 1)) ≤ (v140.length : Int)) then
                    let x235 : (List Int) := (sub v140 0 (wr .i64 ((v140.length : Int) - 1)))
                    bif decide (v133 = 0) then
                      f31a_l2 k j v131 v132 (wr .i64 (v133 + 1)) v134 v135 v136 v137 v138 v139 x235 v141 v142 v143 v144 v145 v146 v147 v148 v149 v150 v151 nx
                    else
                      bif decide (v133 = 1) then
                        f31a_l2 k j v131 v132 (wr .i64 (v133 + 1)) v134 v135 v136 v137 v138 v139 v140 x235 v142 v143 v144 v145 v146 v147 v148 v149 v150 v151 nx
                      else
                        bif decide (v133 = 2) then
                          f31a_l2 k j v131 v132 (wr .i64 (v133 + 1)) v134 v135 v136 v137 v138 v139 v140 v141 x235 v143 v144 v145 v146 v147 v148 v149 v150 v151 nx
                        else
                          bif decide (v133 = 3) then
                            f31a_l2 k j v131 v132 (wr .i64 (v133 + 1)) v134 v135 v136 v137 v138 v139 v140 v141 v142 x235 v144 v145 v146 v147 v148 v149 v150 v151 nx
                          else
                            bif decide (v133 = 4) then
                              f31a_l2 k j v131 v132 (wr .i64 (v133 + 1)) v134 v135 v136 v137 v138 v139 v140 v141 v142 v143 x235 v145 v146 v147 v148 v149 v150 v151 nx
                            else
                              none
                  else
                    none
          else
            bif decide (v133 = 1) then
              bif (!x215.isSome) then
                f31a_l2 k j v131 v132 (wr .i64 (v133 + 1)) v134 v135 v136 v137 v138 v139 v140 v141 v142 v143 v144 v145 v146 v147 v148 v149 v150 v151 nx
              else
                (f30 k v131 (x215.getD 0)).bind fun x228 =>
                bif (!x228.1.1) then
                  (f32 k v141).bind fun x229 =>
                  bif decide ((x229.2.1.length + [v132].length) * 8 ≤ roomy) then
                    bif decide (v133 = 0) then
                      f31a_l2 k j v131 v132 (wr .i64 (v133 + 1)) v134 v135 v136 v137 v138 v139 (x229.2.1 ++ [v132]) v141 v142 v143 v144 v145 v146 v147 v148 v149 v150 v151 nx
                    else
                      bif decide (v133 = 1) then
                        f31a_l2 k j v131 v132 (wr .i64 (v133 + 1)) v134 v135 v136 v137 v138 v139 v140 (x229.2.1 ++ [v132]) v142 v143 v144 v145 v146 v147 v148 v149 v150 v151 nx
                      else
                        bif decide (v133 = 2) then
                          f31a_l2 k j v131 v132 (wr .i64 (v133 + 1)) v134 v135 v136 v137 v138 v139 v140 v141 (x229.2.1 ++ [v132]) v143 v144 v145 v146 v147 v148 v149 v150 v151 nx
                        else
                          bif decide (v133 = 3) then
                            f31a_l2 k j v131 v132 (wr .i64 (v133 + 1)) v134 v135 v136 v137 v138 v139 v140 v141 v142 (x229.2.1 ++ [v132]) v144 v145 v146 v147 v148 v149 v150 v151 nx
                          else
                            bif decide (v133 = 4) then
                              f31a_l2 k j v131 v132 (wr .i64 (v133 + 1)) v134 v135 v136 v137 v138 v139 v140 v141 v142 v143 (x229.2.1 ++ [v132]) v145 v146 v147 v148 v149 v150 v151 nx
                            else
                              none
                  else
                    none
                else
                  (getI v141 (wr .i64 ((v141.length : Int) - 1))).bind fun x230 =>
                  bif (x230 != (x215.getD 0)) then
                    nx.2.1 ((false, ()), ((v134, v135, v136, v137, v138, v139, v140, v141, v142, v143, v144, (((), ()), v145), ()), v146, v147, v148, v149, v150, ((), ()), v151, ()))
                  else
                    bif decide (0 ≤ 0) && decide (0 ≤ (wr .i64 ((v141.length : Int) - 1))) && decide ((wr .i64 ((v141.length : Int) - 1)) ≤ (v141.length : Int)) then
                      let x231 : (List Int) := (sub v141 0 (wr .i64 ((v141.length : Int) - 1)))
                      bif decide (v133 = 0) then
                        f31a_l2 k j v131 v132 (wr .i64 (v133 + 1)) v134 v135 v136 v137 v138 v139 x231 v141 v142 v143 v144 v145 v146 v147 v148 v149 v150 v151 nx
                      else
                        bif decide (v133 = 1) then
                          f31a_l2 k j v131 v132 (wr .i64 (v133 + 1)) v134 v135 v136 v137 v138 v139 v140 x231 v142 v143 v144 v145 v146 v147 v148 v149 v150 v151 nx
                        else
                          bif decide (v133 = 2) then
                            f31a_l2 k j v131 v132 (wr .i64 (v133 + 1)) v134 v135 v136 v137 v138 v139 v140 v141 x231 v143 v144 v145 v146 v147 v148 v149 v150 v151 nx
                          else
                            bif decide (v133 = 3) then
                              f31a_l2 k j v131 v132 (wr .i64 (v133 + 1)) v134 v135 v136 v137 v138 v139 v140 v141 v142 x231 v144 v145 v146 v147 v148 v149 v150 v151 nx
                            else
                              bif decide (v133 = 4) then
                                f31a_l2 k j v131 v132 (wr .i64 (v133 + 1)) v134 v135 v136 v137 v138 v139 v140 v141 v142 v143 x231 v145 v146 v147 v148 v149 v150 v151 nx
                              else
                                none
                    else
                      none
            else
              bif decide (v133 = 2) then
                bif (!x215.isSome) then
                  f31a_l2 k j v131 v132 (wr .i64 (v133 + 1)) v134 v135 v136 v137 v138 v139 v140 v141 v142 v143 v144 v145 v146 v147 v148 v149 v150 v151 nx
                else
                  (f30 k v131 (x215.getD 0)).bind fun x224 =>
                  bif (!x224.1.1) then
                    (f32 k v142).bind fun x225 =>
                    bif decide ((x225.2.1.length + [v132].length) * 8 ≤ roomy) then
                      bif decide (v133 = 0) then
                        f31a_l2 k j v131 v132 (wr .i64 (v133 + 1)) v134 v135 v136 v137 v138 v139 (x225.2.1 ++ [v132]) v141 v142 v143 v144 v145 v146 v147 v148 v149 v150 v151 nx
                      else
                        bif decide (v133 = 1) then
                          f31a_l2 k j v131 v132 (wr .i64 (v133 + 1)) v134 v135 v136 v137 v138 v139 v140 (x225.2.1 ++ [v132]) v142 v143 v144 v145 v146 v147 v148 v149 v150 v151 nx
                        else
                          bif decide (v133 = 2) then
                            f31a_l2 k j v131 v132 (wr .i64 (v133 + 1)) v134 v135 v136 v137 v138 v139 v140 v141 (x225.2.1 ++ [v132]) v143 v144 v145 v146 v147 v148 v149 v150 v151 nx
                          else
                            bif decide (v133 = 3) then
                              f31a_l2 k j v131 v132 (wr .i64 (v133 + 1)) v134 v135 v136 v137 v138 v139 v140 v141 v142 (x225.2.1 ++ [v132]) v144 v145 v146 v147 v148 v149 v150 v151 nx
                            else
                              bif decide (v133 = 4) then
                                f31a_l2 k j v131 v132 (wr .i64 (v133 + 1)) v134 v135 v136 v137 v138 v139 v140 v141 v142 v143 (x225.2.1 ++ [v132]) v145 v146 v147 v148 v149 v150 v151 nx
                              else
                                none
                    else
                      none
                  else
                    (getI v142 (wr .i64 ((v142.length : Int) - 1))).bind fun x226 =>
                    bif (x226 != (x215.getD 0)) then
                      nx.2.1 ((false, ()), ((v134, v135, v136, v137, v138, v139, v140, v141, v142, v143, v144, (((), ()), v145), ()), v146, v147, v148, v149, v150, ((), ()), v151, ()))
                    else
                      bif decide (0 ≤ 0) && decide (0 ≤ (wr .i64 ((v142.length : Int) - 1))) && decide ((wr .i64 ((v142.length : Int) - 1)) ≤ (v142.length : Int)) then
                        let x227 : (List Int) := (sub v142 0 (wr .i64 ((v142.length : Int) - 1)))
                        bif decide (v133 = 0) then
                          f31a_l2 k j v131 v132 (wr .i64 (v133 + 1)) v134 v135 v136 v137 v138 v139 x227 v141 v142 v143 v144 v145 v146 v147 v148 v149 v150 v151 nx
                        else
                          bif decide (v133 = 1) then
                            f31a_l2 k j v131 v132 (wr .i64 (v133 + 1)) v134 v135 v136 v137 v138 v139 v140 x227 v142 v143 v144 v145 v146 v147 v148 v149 v150 v151 nx
                          else
                            bif decide (v133 = 2) then
                              f31a_l2 k j v131 v132 (wr .i64 (v133 + 1)) v134 v135 v136 v137 v138 v139 v140 v141 x227 v143 v144 v145 v146 v147 v148 v149 v150 v151 nx
                            else
                              bif decide (v133 = 3) then
                                f31a_l2 k j v131 v132 (wr .i64 (v133 + 1)) v134 v135 v136 v137 v138 v139 v140 v141 v142 x227 v144 v145 v146 v147 v148 v149 v150 v151 nx
                              else
                                bif decide (v133 = 4) then
                                  f31a_l2 k j v131 v132 (wr .i64 (v133 + 1)) v134 v135 v136 v137 v138 v139 v140 v141 v142 v143 x227 v145 v146 v147 v148 v149 v150 v151 nx
                                else
                                  none
                      else
                        none
              else
                bif decide (v133 = 3) then
                  bif (!x215.isSome) then
                    f31a_l2 k j v131 v132 (wr .i64 (v133 + 1)) v134 v135 v136 v137 v138 v139 v140 v141 v142 v143 v144 v145 v146 v147 v148 v149 v150 v151 nx
                  else
                    (f30 k v131 (x215.getD 0)).bind fun x220 =>
                    bif (!x220.1.1) then
                      (f32 k v143).bind fun x221 =>
                      bif decide ((x221.2.1.length + [v132].length) * 8 ≤ roomy) then
                        bif decide (v133 = 0) then
                          f31a_l2 k j v131 v132 (wr .i64 (v133 + 1)) v134 v135 v136 v137 v138 v139 (x221.2.1 ++ [v132]) v141 v142 v143 v144 v145 v146 v147 v148 v149 v150 v151 nx
                        else
                          bif decide (v133 = 1) then
                            f31a_l2 k j v131 v132 (wr .i64 (v133 + 1)) v134 v135 v136 v137 v138 v139 v140 (x221.2.1 ++ [v132]) v142 v143 v144 v145 v146 v147 v148 v149 v150 v151 nx
                          else
                            bif decide (v133 = 2) then
                              f31a_l2 k j v131 v132 (wr .i64 (v133 + 1)) v134 v135 v136 v137 v138 v139 v140 v141 (x221.2.1 ++ [v132]) v143 v144 v145 v146 v147 v148 v149 v150 v151 nx
                            else
                              bif decide (v133 = 3) then
                                f31a_l2 k j v131 v132 (wr .i64 (v133 + 1)) v134 v135 v136 v137 v138 v139 v140 v141 v142 (x221.2.1 ++ [v132]) v144 v145 v146 v147 v148 v149 v150 v151 nx
                              else
                                bif decide (v133 = 4) then
                                  f31a_l2 k j v131 v132 (wr .i64 (v133 + 1)) v134 v135 v136 v137 v138 v139 v140 v141 v142 v143 (x221.2.1 ++ [v132]) v145 v146 v147 v148 v149 v150 v151 nx
                                else
                                  none
                      else
                        none
                    else
                      (getI v143 (wr .i64 ((v143.length : Int) - 1))).bind fun x222 =>
                      bif (x222 != (x215.getD 0)) then
                        nx.2.1 ((false, ()), ((v134, v135, v136, v137, v138, v139, v140, v141, v142, v143, v144, (((), ()), v145), ()), v146, v147, v148, v149, v150, ((), ()), v151, ()))
                      else
                        bif decide (0 ≤ 0) && decide (0 ≤ (wr .i64 ((v143.length : Int) - 1))) && decide ((wr .i64 ((v143.length : Int) - 1)) ≤ (v143.length : Int)) then
                          let x223 : (List Int) := (sub v143 0 (wr .i64 ((v143.length : Int) - 1)))
                          bif decide (v133 = 0) then
                            f31a_l2 k j v131 v132 (wr .i64 (v133 + 1)) v134 v135 v136 v137 v138 v139 x223 v141 v142 v143 v144 v145 v146 v147 v148 v149 v150 v151 nx
                          else
                            bif decide (v133 = 1) then
                              f31a_l2 k j v131 v132 (wr .i64 (v133 + 1)) v134 v135 v136 v137 v138 v139 v140 x223 v142 v143 v144 v145 v146 v147 v148 v149 v150 v151 nx
                            else
                              bif decide (v133 = 2) then
                                f31a_l2 k j v131 v132 (wr .i64 (v133 + 1)) v134 v135 v136 v137 v138 v139 v140 v141 x223 v143 v144 v145 v146 v147 v148 v149 v150 v151 nx
                              else
                                bif decide (v133 = 3) then
                                  f31a_l2 k j v131 v132 (wr .i64 (v133 + 1)) v134 v135 v136 v137 v138 v139 v140 v141 v142 x223 v144 v145 v146 v147 v148 v149 v150 v151 nx
                                else
                                  bif decide (v133 = 4) then
                                    f31a_l2 k j v131 v132 (wr .i64 (v133 + 1)) v134 v135 v136 v137 v138 v139 v140 v141 v142 v143 x223 v145 v146 v147 v148 v149 v150 v151 nx
                                  else
                                    none
                        else
                          none
                else
                  bif decide (v133 = 4) then
                    bif (!x215.isSome) then
                      f31a_l2 k j v131 v132 (wr .i64 (v133 + 1)) v134 v135 v136 v137 v138 v139 v140 v141 v142 v143 v144 v145 v146 v147 v148 v149 v150 v151 nx
                    else
                      (f30 k v131 (x215.getD 0)).bind fun x216 =>
                      bif (!x216.1.1) then
                        (f32 k v144).bind fun x217 =>
                        bif decide ((x217.2.1.length + [v132].length) * 8 ≤ roomy) then
                          bif decide (v133 = 0) then
                            f31a_l2 k j v131 v132 (wr .i64 (v133 + 1)) v134 v135 v136 v137 v138 v139 (x217.2.1 ++ [v132]) v141 v142 v143 v144 v145 v146 v147 v148 v149 v150 v151 nx
                          else
                            bif decide (v133 = 1) then
                              f31a_l2 k j v131 v132 (wr .i64 (v133 + 1)) v134 v135 v136 v137 v138 v139 v140 (x217.2.1 ++ [v132]) v142 v143 v144 v145 v146 v147 v148 v149 v150 v151 nx
                            else
                              bif decide (v133 = 2) then
                                f31a_l2 k j v131 v132 (wr .i64 (v133 + 1)) v134 v135 v136 v137 v138 v139 v140 v141 (x217.2.1 ++ [v132]) v143 v144 v145 v146 v147 v148 v149 v150 v151 nx
                              else
                                bif decide (v133 = 3) then
                                  f31a_l2 k j v131 v132 (wr .i64 (v133 + 1)) v134 v135 v136 v137 v138 v139 v140 v141 v142 (x217.2.1 ++ [v132]) v144 v145 v146 v147 v148 v149 v150 v151 nx
                                else
                                  bif decide (v133 = 4) then
                                    f31a_l2 k j v131 v132 (wr .i64 (v133 + 1)) v134 v135 v136 v137 v138 v139 v140 v141 v142 v143 (x217.2.1 ++ [v132]) v145 v146 v147 v148 v149 v150 v151 nx
                                  else
                                    none
                        else
                          none
                      else
                        (getI v144 (wr .i64 ((v144.length : Int) - 1))).bind fun x218 =>
                        bif (x218 != (x215.getD 0)) then
                          nx.2.1 ((false, ()), ((v134, v135, v136, v137, v138, v139, v140, v141, v142, v143, v144, (((), ()), v145), ()), v146, v147, v148, v149, v150, ((), ()), v151, ()))
                        else
                          bif decide (0 ≤ 0) && decide (0 ≤ (wr .i64 ((v144.length : Int) - 1))) && decide ((wr .i64 ((v144.length : Int) - 1)) ≤ (v144.length : Int)) then
                            let x219 : (List Int) := (sub v144 0 (wr .i64 ((v144.length : Int) - 1)))
                            bif decide (v133 = 0) then
                              f31a_l2 k j v131 v132 (wr .i64 (v133 + 1)) v134 v135 v136 v137 v138 v139 x219 v141 v142 v143 v144 v145 v146 v147 v148 v149 v150 v151 nx
                            else
                              bif decide (v133 = 1) then
                                f31a_l2 k j v131 v132 (wr .i64 (v133 + 1)) v134 v135 v136 v137 v138 v139 v140 x219 v142 v143 v144 v145 v146 v147 v148 v149 v150 v151 nx
                              else
                                bif decide (v133 = 2) then
                                  f31a_l2 k j v131 v132 (wr .i64 (v133 + 1)) v134 v135 v136 v137 v138 v139 v140 v141 x219 v143 v144 v145 v146 v147 v148 v149 v150 v151 nx
                                else
                                  bif decide (v133 = 3) then
                                    f31a_l2 k j v131 v132 (wr .i64 (v133 + 1)) v134 v135 v136 v137 v138 v139 v140 v141 v142 x219 v144 v145 v146 v147 v148 v149 v150 v151 nx
                                  else
                                    bif decide (v133 = 4) then
                                      f31a_l2 k j v131 v132 (wr .i64 (v133 + 1)) v134 v135 v136 v137 v138 v139 v140 v141 v142 v143 x219 v145 v146 v147 v148 v149 v150 v151 nx
                                    else
                                      none
                          else
                            none
                  else
                    none
        else
          bif decide (v133 = 2) then
            let x194 : (Option Int) := (mapGet (fun (a b : Int) => a == b) v132 v148)
            bif decide (v133 = 0) then
              bif (!x194.isSome) then
                f31a_l2 k j v131 v132 (wr .i64 (v133 + 1)) v134 v135 v136 v137 v138 v139 v140 v141 v142 v143 v144 v145 v146 v147 v148 v149 v150 v151 nx
              else
                (f30 k v131 (x194.getD 0)).bind fun x211 =>
                bif (!x211.1.1) then
                  (f32 k v140).bind fun x212 =>
                  bif decide ((x212.2.1.length + [v132].length) * 8 ≤ roomy) then
                    bif decide (v133 = 0) then
                      f31a_l2 k j v131 v132 (wr .i64 (v133 + 1)) v134 v135 v136 v137 v138 v139 (x212.2.1 ++ [v132]) v141 v142 v143 v144 v145 v146 v147 v148 v149 v150 v151 nx
                    else
                      bif decide (v133 = 1) then
                        f31a_l2 k j v131 v132 (wr .i64 (v133 + 1)) v134 v135 v136 v137 v138 v139 v140 (x212.2.1 ++ [v132]) v142 v143 v144 v145 v146 v147 v148 v149 v150 v151 nx
                      else
                        bif decide (v133 = 2) then
                          f31a_l2 k j v131 v132 (wr .i64 (v133 + 1)) v134 v135 v136 v137 v138 v139 v140 v141 (x212.2.1 ++ [v132]) v143 v144 v145 v146 v147 v148 v149 v150 v151 nx
                        else
                          bif decide (v133 = 3) then
                            f31a_l2 k j v131 v132 (wr .i64 (v133 + 1)) v134 v135 v136 v137 v138 v139 v140 v141 v142 (x212.2.1 ++ [v132]) v144 v145 v146 v147 v148 v149 v150 v151 nx
                          else
                            bif decide (v133 = 4) then
                              f31a_l2 k j v131 v132 (wr .i64 (v133 + 1)) v134 v135 v136 v137 v138 v139 v140 v141 v142 v143 (x212.2.1 ++ [v132]) v145 v146 v147 v148 v149 v150 v151 nx
                            else
                              none
                  else
                    none
                else
                  (getI v140 (wr .i64 ((v140.length : Int) - 1))).bind fun x213 =>
                  bif (x213 != (x194.getD 0)) then
                    nx.2.1 ((false, ()), ((v134, v135, v136, v137, v138, v139, v140, v141, v142, v143, v144, (((), ()), v145), ()), v146, v147, v148, v149, v150, ((), ()), v151, ()))
                  else
                    bif decide (0 ≤ 0) && decide (0 ≤ (wr .i64 ((v140.length : Int) - 1))) && decide ((wr .i64 ((v140.length : Int) - 1)) ≤ (v140.length : Int)) then
                      let x214 : (List Int) := (sub v140 0 (wr .i64 ((v140.length : Int) - 1)))
                      bif decide (v133 = 0) then
                        f31a_l2 k j v131 v132 (wr .i64 (v133 + 1)) v134 v135 v136 v137 v138 v139 x214 v141 v142 v143 v144 v145 v146 v147 v148 v149 v150 v151 nx
                      else
                        bif decide (v133 = 1) then
                          f31a_l2 k j v131 v132 (wr .i64 (v133 + 1)) v134 v135 v136 v137 v138 v139 v140 x214 v142 v143 v144 v145 v146 v147 v148 v149 v150 v151 nx
                        else
                          bif decide (v133 = 2) then
                            f31a_l2 k j v131 v132 (wr .i64 (v133 + 1)) v134 v135 v136 v137 v138 v139 v140 v141 x214 v143 v144 v145 v146 v147 v148 v149 v150 v151 nx
                          else
                            bif decide (v133 = 3) then
                              f31a_l2 k j v131 v132 (wr .i64 (v133 + 1)) v134 v135 v136 v137 v138 v139 v140 v141 v142 x214 v144 v145 v146 v147 v148 v149 v150 v151 nx
                            else
                              bif decide (v133 = 4) then
                                f31a_l2 k j v131 v132 (wr .i64 (v133 + 1)) v134 v135 v136 v137 v138 v139 v140 v141 v142 v143 x214 v145 v146 v147 v148 v149 v150 v151 nx
                              else
                                none
                    else
                      none
            else
              bif decide (v133 = 1) then
                bif (!x194.isSome) then
                  f31a_l2 k j v131 v132 (wr .i64 (v133 + 1)) v134 v135 v136 v137 v138 v139 v140 v141 v142 v143 v144 v145 v146 v147 v148 v149 v150 v151 nx
                else
                  (f30 k v131 (x194.getD 0)).bind fun x207 =>
                  bif (!x207.1.1) then
                    (f32 k v141).bind fun x208 =>
                    bif decide ((x208.2.1.length + [v132].length) * 8 ≤ roomy) then
                      bif decide (v133 = 0) then
                        f31a_l2 k j v131 v132 (wr .i64 (v133 + 1)) v134 v135 v136 v137 v138 v139 (x208.2.1 ++ [v132]) v141 v142 v143 v144 v145 v146 v147 v148 v149 v150 v151 nx
                      else
                        bif decide (v133 = 1) then
                          f31a_l2 k j v131 v132 (wr .i64 (v133 + 1)) v134 v135 v136 v137 v138 v139 v140 (x208.2.1 ++ [v132]) v142 v143 v144 v145 v146 v147 v148 v149 v150 v151 nx
                        else
                          bif decide (v133 = 2) then
                            f31a_l2 k j v131 v132 (wr .i64 (v133 + 1)) v134 v135 v136 v137 v138 v139 v140 v141 (x208.2.1 ++ [v132]) v143 v144 v145 v146 v147 v148 v149 v150 v151 nx
                          else
                            bif decide (v133 = 3) then
                              f31a_l2 k j v131 v132 (wr .i64 (v133 + 1)) v134 v135 v136 v137 v138 v139 v140 v141 v142 (x208.2.1 ++ [v132]) v144 v145 v146 v147 v148 v149 v150 v151 nx
                            else
                              bif decide (v133 = 4) then
                                f31a_l2 k j v131 v132 (wr .i64 (v133 + 1)) v134 v135 v136 v137 v138 v139 v140 v141 v142 v143 (x208.2.1 ++ [v132]) v145 v146 v147 v148 v149 v150 v151 nx
                              else
                                none
                    else
                      none
                  else
                    (getI v141 (wr .i64 ((v141.length : Int) - 1))).bind fun x209 =>
                    bif (x209 != (x194.getD 0)) then
                      nx.2.1 ((false, ()), ((v134, v135, v136, v137, v138, v139, v140, v141, v142, v143, v144, (((), ()), v145), ()), v146, v147, v148, v149, v150, ((), ()), v151, ()))
                    else
                      bif decide (0 ≤ 0) && decide (0 ≤ (wr .i64 ((v141.length : Int) - 1))) && decide ((wr .i64 ((v141.length : Int) - 1)) ≤ (v141.length : Int)) then
                        let x210 : (List Int) := (sub v141 0 (wr .i64 ((v141.length : Int) - 1)))
                        bif decide (v133 = 0) then
                          f31a_l2 k j v131 v132 (wr .i64 (v133 + 1)) v134 v135 v136 v137 v138 v139 x210 v141 v142 v143 v144 v145 v146 v147 v148 v149 v150 v151 nx
                        else
                          bif decide (v133 = 1) then
                            f31a_l2 k j v131 v132 (wr .i64 (v133 + 1)) v134 v135 v136 v137 v138 v139 v140 x210 v142 v143 v144 v145 v146 v147 v148 v149 v150 v151 nx
                          else
                            bif decide (v133 = 2) then
                              f31a_l2 k j v131 v132 (wr .i64 (v133 + 1)) v134 v135 v136 v137 v138 v139 v140 v141 x210 v143 v144 v145 v146 v147 v148 v149 v150 v151 nx
                            else
                              bif decide (v133 = 3) then
                                f31a_l2 k j v131 v132 (wr .i64 (v133 + 1)) v134 v135 v136 v137 v138 v139 v140 v141 v142 x210 v144 v145 v146 v147 v148 v149 v150 v151 nx
                              else
                                bif decide (v133 = 4) then
                                  f31a_l2 k j v131 v132 (wr .i64 (v133 + 1)) v134 v135 v136 v137 v138 v139 v140 v141 v142 v143 x210 v145 v146 v147 v148 v149 v150 v151 nx
                                else
                                  none
                      else
                        none
              else
                bif decide (v133 = 2) then
                  bif (!x194.isSome) then
                    f31a_l2 k j v131 v132 (wr .i64 (v133 + 1)) v134 v135 v136 v137 v138 v139 v140 v141 v142 v143 v144 v145 v146 v147 v148 v149 v150 v151 nx
                  else
                    (f30 k v131 (x194.getD 0)).bind fun x203 =>
                    bif (!x203.1.1) then
                      (f32 k v142).bind fun x204 =>
                      bif decide ((x204.2.1.length + [v132].length) * 8 ≤ roomy) then
                        bif decide (v133 = 0) then
                          f31a_l2 k j v131 v132 (wr .i64 (v133 + 1)) v134 v135 v136 v137 v138 v139 (x204.2.1 ++ [v132]) v141 v142 v143 v144 v145 v146 v147 v148 v149 v150 v151 nx
                        else
                          bif decide (v133 = 1) then
                            f31a_l2 k j v131 v132 (wr .i64 (v133 + 1)) v134 v135 v136 v137 v138 v139 v140 (x204.2.1 ++ [v132]) v142 v143 v144 v145 v146 v147 v148 v149 v150 v151 nx
                          else
                            bif decide (v133 = 2) then
                              f31a_l2 k j v131 v132 (wr .i64 (v133 + 1)) v134 v135 v136 v137 v138 v139 v140 v141 (x204.2.1 ++ [v132]) v143 v144 v145 v146 v147 v148 v149 v150 v151 nx
                            else
                              bif decide (v133 = 3) then
                                f31a_l2 k j v131 v132 (wr .i64 (v133 + 1)) v134 v135 v136 v137 v138 v139 v140 v141 v142 (x204.2.1 ++ [v132]) v144 v145 v146 v147 v148 v149 v150 v151 nx
                              else
                                bif decide (v133 = 4) then
                                  f31a_l2 k j v131 v132 (wr .i64 (v133 + 1)) v134 v135 v136 v137 v138 v139 v140 v141 v142 v143 (x204.2.1 ++ [v132]) v145 v146 v147 v148 v149 v150 v151 nx
                                else
                                  none
                      else
                        none
                    else
                      (getI v142 (wr .i64 ((v142.length : Int) - 1))).bind fun x205 =>
                      bif (x205 != (x194.getD 0)) then
                        nx.2.1 ((false, ()), ((v134, v135, v136, v137, v138, v139, v140, v141, v142, v143, v144, (((), ()), v145), ()), v146, v147, v148, v149, v150, ((), ()), v151, ()))
                      else
                        bif decide (0 ≤ 0) && decide (0 ≤ (wr .i64 ((v142.length : Int) - 1))) && decide ((wr .i64 ((v142.length : Int) - 1)) ≤ (v142.length : Int)) then
                          let x206 : (List Int) := (sub v142 0 (wr .i64 ((v142.length : Int) - 1)))
                          bif decide (v133 = 0) then
                            f31a_l2 k j v131 v132 (wr .i64 (v133 + 1)) v134 v135 v136 v137 v138 v139 x206 v141 v142 v143 v144 v145 v146 v147 v148 v149 v150 v151 nx
                          else
                            bif decide (v133 = 1) then
                              f31a_l2 k j v131 v132 (wr .i64 (v133 + 1)) v134 v135 v136 v137 v138 v139 v140 x206 v142 v143 v144 v145 v146 v147 v148 v149 v150 v151 nx
                            else
                              bif decide (v133 = 2) then
                                f31a_l2 k j v131 v132 (wr .i64 (v133 + 1)) v134 v135 v136 v137 v138 v139 v140 v141 x206 v143 v144 v145 v146 v147 v148 v149 v150 v151 nx
                              else
                                bif decide (v133 = 3) then
                                  f31a_l2 k j v131 v132 (wr .i64 (v133 + 1)) v134 v135 v136 v137 v138 v139 v140 v141 v142 x206 v144 v145 v146 v147 v148 v149 v150 v151 nx
                                else
                                  bif decide (v133 = 4) then
                                    f31a_l2 k j v131 v132 (wr .i64 (v133 + 1)) v134 v135 v136 v137 v138 v139 v140 v141 v142 v143 x206 v145 v146 v147 v148 v149 v150 v151 nx
                                  else
                                    none
                        else
                          none
                else
                  bif decide (v133 = 3) then
                    bif (!x194.isSome) then
                      f31a_l2 k j v131 v132 (wr .i64 (v133 + 1)) v134 v135 v136 v137 v138 v139 v140 v141 v142 v143 v144 v145 v146 v147 v148 v149 v150 v151 nx
                    else
                      (f30 k v131 (x194.getD 0)).bind fun x199 =>
                      bif (!x199.1.1) then
                        (f32 k v143).bind fun x200 =>
                        bif decide ((x200.2.1.length + [v132].length) * 8 ≤ roomy) then
                          bif decide (v133 = 0) then
                            f31a_l2 k j v131 v132 (wr .i64 (v133 + 1)) v134 v135 v136 v137 v138 v139 (x200.2.1 ++ [v132]) v141 v142 v143 v144 v145 v146 v147 v148 v149 v150 v151 nx
                          else
                            bif decide (v133 = 1) then
                              f31a_l2 k j v131 v132 (wr .i64 (v133 + 1)) v134 v135 v136 v137 v138 v139 v140 (x200.2.1 ++ [v132]) v142 v143 v144 v145 v146 v147 v148 v149 v150 v151 nx
                            else
                              bif decide (v133 = 2) then
                                f31a_l2 k j v131 v132 (wr .i64 (v133 + 1)) v134 v135 v136 v137 v138 v139 v140 v141 (x200.2.1 ++ [v132]) v143 v144 v145 v146 v147 v148 v149 v150 v151 nx
                              else
                                bif decide (v133 = 3) then
                                  f31a_l2 k j v131 v132 (wr .i64 (v133 + 1)) v134 v135 v136 v137 v138 v139 v140 v141 v142 (x200.2.1 ++ [v132]) v144 v145 v146 v147 v148 v149 v150 v151 nx
                                else
                                  bif decide (v133 = 4) then
                                    f31a_l2 k j v131 v132 (wr .i64 (v133 + 1)) v134 v135 v136 v137 v138 v139 v140 v141 v142 v143 (x200.2.1 ++ [v132]) v145 v146 v147 v148 v149 v150 v151 nx
                                  else
                                    none
                        else
                          none
                      else
                        (getI v143 (wr .i64 ((v143.length : Int) - 1))).bind fun x201 =>
                        bif (x201 != (x194.getD 0)) then
                          nx.2.1 ((false, ()), ((v134, v135, v136, v137, v138, v139, v140, v141, v142, v143, v144, (((), ()), v145), ()), v146, v147, v148, v149, v150, ((), ()), v151, ()))
                        else
                          bif decide (0 ≤ 0) && decide (0 ≤ (wr .i64 ((v143.length : Int) - 1))) && decide ((wr .i64 ((v143.length : Int) - 1)) ≤ (v143.length : Int)) then
                            let x202 : (List Int) := (sub v143 0 (wr .i64 ((v143.length : Int) - 1)))
                            bif decide (v133 = 0) then
                              f31a_l2 k j v131 v132 (wr .i64 (v133 + 1)) v134 v135 v136 v137 v138 v139 x202 v141 v142 v143 v144 v145 v146 v147 v148 v149 v150 v151 nx
                            else
                              bif decide (v133 = 1) then
                                f31a_l2 k j v131 v132 (wr .i64 (v133 + 1)) v134 v135 v136 v137 v138 v139 v140 x202 v142 v143 v144 v145 v146 v147 v148 v149 v150 v151 nx
                              else
                                bif decide (v133 = 2) then
                                  f31a_l2 k j v131 v132 (wr .i64 (v133 + 1)) v134 v135 v136 v137 v138 v139 v140 v141 x202 v143 v144 v145 v146 v147 v148 v149 v150 v151 nx
                                else
                                  bif decide (v133 = 3) then
                                    f31a_l2 k j v131 v132 (wr .i64 (v133 + 1)) v134 v135 v136 v137 v138 v139 v140 v141 v142 x202 v144 v145 v146 v147 v148 v149 v150 v151 nx
                                  else
                                    bif decide (v133 = 4) then
                                      f31a_l2 k j v131 v132 (wr .i64 (v133 + 1)) v134 v135 v136 v137 v138 v139 v140 v141 v142 v143 x202 v145 v146 v147 v148 v149 v150 v151 nx
                                    else
                                      none
                          else
                            none
                  else
                    bif decide (v133 = 4) then
                      bif (!x194.isSome) then
                        f31a_l2 k j v131 v132 (wr .i64 (v133 + 1)) v134 v135 v136 v137 v138 v139 v140 v141 v142 v143 v144 v145 v146 v147 v148 v149 v150 v151 nx
                      else
                        (f30 k v131 (x194.getD 0)).bind fun x195 =>
                        bif (!x195.1.1) then
                          (f32 k v144).bind fun x196 =>
                          bif decide ((x196.2.1.length + [v132].length) * 8 ≤ roomy) then
                            bif decide (v133 = 0) then
                              f31a_l2 k j v131 v132 (wr .i64 (v133 + 1)) v134 v135 v136 v137 v138 v139 (x196.2.1 ++ [v132]) v141 v142 v143 v144 v145 v146 v147 v148 v149 v150 v151 nx
                            else
                              bif decide (v133 = 1) then
                                f31a_l2 k j v131 v132 (wr .i64 (v133 + 1)) v134 v135 v136 v137 v138 v139 v140 (x196.2.1 ++ [v132]) v142 v143 v144 v145 v146 v147 v148 v149 v150 v151 nx
                              else
                                bif decide (v133 = 2) then
                                  f31a_l2 k j v131 v132 (wr .i64 (v133 + 1)) v134 v135 v136 v137 v138 v139 v140 v141 (x196.2.1 ++ [v132]) v143 v144 v145 v146 v147 v148 v149 v150 v151 nx
                                else
                                  bif decide (v133 = 3) then
                                    f31a_l2 k j v131 v132 (wr .i64 (v133 + 1)) v134 v135 v136 v137 v138 v139 v140 v141 v142 (x196.2.1 ++ [v132]) v144 v145 v146 v147 v148 v149 v150 v151 nx
                                  else
                                    bif decide (v133 = 4) then
                                      f31a_l2 k j v131 v132 (wr .i64 (v133 + 1)) v134 v135 v136 v137 v138 v139 v140 v141 v142 v143 (x196.2.1 ++ [v132]) v145 v146 v147 v148 v149 v150 v151 nx
                                    else
                                      none
                          else
                            none
                        else
                          (getI v144 (wr .i64 ((v144.length : Int) - 1))).bind fun x197 =>
                          bif (x197 != (x194.getD 0)) then
                            nx.2.1 ((false, ()), ((v134, v135, v136, v137, v138, v139, v140, v141, v142, v143, v144, (((), ()), v145), ()), v146, v147, v148, v149, v150, ((), ()), v151, ()))
                          else
                            bif decide (0 ≤ 0) && decide (0 ≤ (wr .i64 ((v144.length : Int) - 1))) && decide ((wr .i64 ((v144.length : Int) - 1)) ≤ (v144.length : Int)) then
                              let x198 : (List Int) := (sub v144 0 (wr .i64 ((v144.length : Int) - 1)))
                              bif decide (v133 = 0) then
                                f31a_l2 k j v131 v132 (wr .i64 (v133 + 1)) v134 v135 v136 v137 v138 v139 x198 v141 v142 v143 v144 v145 v146 v147 v148 v149 v150 v151 nx
                              else
                                bif decide (v133 = 1) then
                                  f31a_l2 k j v131 v132 (wr .i64 (v133 + 1)) v134 v135 v136 v137 v138 v139 v140 x198 v142 v143 v144 v145 v146 v147 v148 v149 v150 v151 nx
                                else
                                  bif decide (v133 = 2) then
                                    f31a_l2 k j v131 v132 (wr .i64 (v133 + 1)) v134 v135 v136 v137 v138 v139 v140 v141 x198 v143 v144 v145 v146 v147 v148 v149 v150 v151 nx
                                  else
                                    bif decide (v133 = 3) then
                                      f31a_l2 k j v131 v132 (wr .i64 (v133 + 1)) v134 v135 v136 v137 v138 v139 v140 v141 v142 x198 v144 v145 v146 v147 v148 v149 v150 v151 nx
                                    else
                                      bif decide (v133 = 4) then
                                        f31a_l2 k j v131 v132 (wr .i64 (v133 + 1)) v134 v135 v136 v137 v138 v139 v140 v141 v142 v143 x198 v145 v146 v147 v148 v149 v150 v151 nx
                                      else
                                        none
                            else
                              none
                    else
                      none
          else
            bif decide (v133 = 3) then
              let x173 : (Option Int) := (mapGet (fun (a b : Int) => a == b) v132 v149)
              bif decide (v133 = 0) then
                bif (!x173.isSome) then
                  f31a_l2 k j v131 v132 (wr .i64 (v133 + 1)) v134 v135 v136 v137 v138 v139 v140 v141 v142 v143 v144 v145 v146 v147 v148 v149 v150 v151 nx
                else
                  (f30 k v131 (x173.getD 0)).bind fun x190 =>
                  bif (!x190.1.1) then
                    (f32 k v140).bind fun x191 =>
                    bif decide ((x191.2.1.length + [v132].length) * 8 ≤ roomy) then
                      bif decide (v133 = 0) then
                        f31a_l2 k j v131 v132 (wr .i64 (v133 + 1)) v134 v135 v136 v137 v138 v139 (x191.2.1 ++ [v132]) v141 v142 v143 v144 v145 v146 v147 v148 v149 v150 v151 nx
                      else
                        bif decide (v133 = 1) then
                          f31a_l2 k j v131 v132 (wr .i64 (v133 + 1)) v134 v135 v136 v137 v138 v139 v140 (x191.2.1 ++ [v132]) v142 v143 v144 v145 v146 v147 v148 v149 v150 v151 nx
                        else
                          bif decide (v133 = 2) then
                            f31a_l2 k j v131 v132 (wr .i64 (v133 + 1)) v134 v135 v136 v137 v138 v139 v140 v141 (x191.2.1 ++ [v132]) v143 v144 v145 v146 v147 v148 v149 v150 v151 nx
                          else
                            bif decide (v133 = 3) then
                              f31a_l2 k j v131 v132 (wr .i64 (v133 + 1)) v134 v135 v136 v137 v138 v139 v140 v141 v142 (x191.2.1 ++ [v132]) v144 v145 v146 v147 v148 v149 v150 v151 nx
                            else
                              bif decide (v133 = 4) then
                                f31a_l2 k j v131 v132 (wr .i64 (v133 + 1)) v134 v135 v136 v137 v138 v139 v140 v141 v142 v143 (x191.2.1 ++ [v132]) v145 v146 v147 v148 v149 v150 v151 nx
                              else
                                none
                    else
                      none
                  else
                    (getI v140 (wr .i64 ((v140.length : Int) - 1))).bind fun x192 =>
                    bif (x192 != (x173.getD 0)) then
                      nx.2.1 ((false, ()), ((v134, v135, v136, v137, v138, v139, v140, v141, v142, v143, v144, (((), ()), v145), ()), v146, v147, v148, v149, v150, ((), ()), v151, ()))
                    else
                      bif decide (0 ≤ 0) && decide (0 ≤ (wr .i64 ((v140.length : Int) - 1))) && decide ((wr .i64 ((v140.length : Int) - 1)) ≤ (v140.length : Int)) then
                        let x193 : (List Int) := (sub v140 0 (wr .i64 ((v140.length : Int) - 1)))
                        bif decide (v133 = 0) then
                          f31a_l2 k j v131 v132 (wr .i64 (v133 + 1)) v134 v135 v136 v137 v138 v139 x193 v141 v142 v143 v144 v145 v146 v147 v148 v149 v150 v151 nx
                        else
                          bif decide (v133 = 1) then
                            f31a_l2 k j v131 v132 (wr .i64 (v133 + 1)) v134 v135 v136 v137 v138 v139 v140 x193 v142 v143 v144 v145 v146 v147 v148 v149 v150 v151 nx
                          else
                            bif decide (v133 = 2) then
                              f31a_l2 k j v131 v132 (wr .i64 (v133 + 1)) v134 v135 v136 v137 v138 v139 v140 v141 x193 v143 v144 v145 v146 v147 v148 v149 v150 v151 nx
                            else
                              bif decide (v133 = 3) then
                                f31a_l2 k j v131 v132 (wr .i64 (v133 + 1)) v134 v135 v136 v137 v138 v139 v140 v141 v142 x193 v144 v145 v146 v147 v148 v149 v150 v151 nx
                              else
                                bif decide (v133 = 4) then
                                  f31a_l2 k j v131 v132 (wr .i64 (v133 + 1)) v134 v135 v136 v137 v138 v139 v140 v141 v142 v143 x193 v145 v146 v147 v148 v149 v150 v151 nx
                                else
                                  none
                      else
                        none
              else
                bif decide (v133 = 1) then
                  bif (!x173.isSome) then
                    f31a_l2 k j v131 v132 (wr .i64 (v133 + 1)) v134 v135 v136 v137 v138 v139 v140 v141 v142 v143 v144 v145 v146 v147 v148 v149 v150 v151 nx
                  else
                    (f30 k v131 (x173.getD 0)).bind fun x186 =>
                    bif (!x186.1.1) then
                      (f32 k v141).bind fun x187 =>
                      bif decide ((x187.2.1.length + [v132].length) * 8 ≤ roomy) then
                        bif decide (v133 = 0) then
                          f31a_l2 k j v131 v132 (wr .i64 (v133 + 1)) v134 v135 v136 v137 v138 v139 (x187.2.1 ++ [v132]) v141 v142 v143 v144 v145 v146 v147 v148 v149 v150 v151 nx
                        else
                          bif decide (v133 = 1) then
                            f31a_l2 k j v131 v132 (wr .i64 (v133 + 1)) v134 v135 v136 v137 v138 v139 v140 (x187.2.1 ++ [v132]) v142 v143 v144 v145 v146 v147 v148 v149 v150 v151 nx
                          else
                            bif decide (v133 = 2) then
                              f31a_l2 k j v131 v132 (wr .i64 (v133 + 1)) v134 v135 v136 v137 v138 v139 v140 v141 (x187.2.1 ++ [v132]) v143 v144 v145 v146 v147 v148 v149 v150 v151 nx
                            else
                              bif decide (v133 = 3) then
                                f31a_l2 k j v131 v132 (wr .i64 (v133 + 1)) v134 v135 v136 v137 v138 v139 v140 v141 v142 (x187.2.1 ++ [v132]) v144 v145 v146 v147 v148 v149 v150 v151 nx
                              else
                                bif decide (v133 = 4) then
                                  f31a_l2 k j v131 v132 (wr .i64 (v133 + 1)) v134 v135 v136 v137 v138 v139 v140 v141 v142 v143 (x187.2.1 ++ [v132]) v145 v146 v147 v148 v149 v150 v151 nx
                                else
                                  none
                      else
                        none
                    else
                      (getI v141 (wr .i64 ((v141.length : Int) - 1))).bind fun x188 =>
                      bif (x188 != (x173.getD 0)) then
                        nx.2.1 ((false, ()), ((v134, v135, v136, v137, v138, v139, v140, v141, v142, v143, v144, (((), ()), v145), ()), v146, v147, v148, v149, v150, ((), ()), v151, ()))
                      else
                        bif decide (0 ≤ 0) && decide (0 ≤ (wr .i64 ((v141.length : Int) - 1))) && decide ((wr .i64 ((v141.length : Int) - 1)) ≤ (v141.length : Int)) then
                          let x189 : (List Int) := (sub v141 0 (wr .i64 ((v141.length : Int) - 1)))
                          bif decide (v133 = 0) then
                            f31a_l2 k j v131 v132 (wr .i64 (v133 + 1)) v134 v135 v136 v137 v138 v139 x189 v141 v142 v143 v144 v145 v146 v147 v148 v149 v150 v151 nx
                          else
                            bif decide (v133 = 1) then
                              f31a_l2 k j v131 v132 (wr .i64 (v133 + 1)) v134 v135 v136 v137 v138 v139 v140 x189 v142 v143 v144 v145 v146 v147 v148 v149 v150 v151 nx
                            else
                              bif decide (v133 = 2) then
                                f31a_l2 k j v131 v132 (wr .i64 (v133 + 1)) v134 v135 v136 v137 v138 v139 v140 v141 x189 v143 v144 v145 v146 v147 v148 v149 v150 v151 nx
                              else
                                bif decide (v133 = 3) then
                                  f31a_l2 k j v131 v132 (wr .i64 (v133 + 1)) v134 v135 v136 v137 v138 v139 v140 v141 v142 x189 v144 v145 v146 v147 v148 v149 v150 v151 nx
                                else
                                  bif decide (v133 = 4) then
                                    f31a_l2 k j v131 v132 (wr .i64 (v133 + 1)) v134 v135 v136 v137 v138 v139 v140 v141 v142 v143 x189 v145 v146 v147 v148 v149 v150 v151 nx
                                  else
                                    none
                        else
                          none
                else
                  bif decide (v133 = 2) then
                    bif (!x173.isSome) then
                      f31a_l2 k j v131 v132 (wr .i64 (v133 + 1)) v134 v135 v136 v137 v138 v139 v140 v141 v142 v143 v144 v145 v146 v147 v148 v149 v150 v151 nx
                    else
                      (f30 k v131 (x173.getD 0)).bind fun x182 =>
                      bif (!x182.1.1) then
                        (f32 k v142).bind fun x183 =>
                        bif decide ((x183.2.1.length + [v132].length) * 8 ≤ roomy) then
                          bif decide (v133 = 0) then
                            f31a_l2 k j v131 v132 (wr .i64 (v133 + 1)) v134 v135 v136 v137 v138 v139 (x183.2.1 ++ [v132]) v141 v142 v143 v144 v145 v146 v147 v148 v149 v150 v151 nx
                          else
                            bif decide (v133 = 1) then
                              f31a_l2 k j v131 v132 (wr .i64 (v133 + 1)) v134 v135 v136 v137 v138 v139 v140 (x183.2.1 ++ [v132]) v142 v143 v144 v145 v146 v147 v148 v149 v150 v151 nx
                            else
                              bif decide (v133 = 2) then
                                f31a_l2 k j v131 v132 (wr .i64 (v133 + 1)) v134 v135 v136 v137 v138 v139 v140 v141 (x183.2.1 ++ [v132]) v143 v144 v145 v146 v147 v148 v149 v150 v151 nx
                              else
                                bif decide (v133 = 3) then
                                  f31a_l2 k j v131 v132 (wr .i64 (v133 + 1)) v134 v135 v136 v137 v138 v139 v140 v141 v142 (x183.2.1 ++ [v132]) v144 v145 v146 v147 v148 v149 v150 v151 nx
                                else
                                  bif decide (v133 = 4) then
                                    f31a_l2 k j v131 v132 (wr .i64 (v133 + 1)) v134 v135 v136 v137 v138 v139 v140 v141 v142 v143 (x183.2.1 ++ [v132]) v145 v146 v147 v148 v149 v150 v151 nx
                                  else
                                    none
                        else
                          none
                      else
                        (getI v142 (wr .i64 ((v142.length : Int) - 1))).bind fun x184 =>
                        bif (x184 != (x173.getD 0)) then
                          nx.2.1 ((false, ()), ((v134, v135, v136, v137, v138, v139, v140, v141, v142, v143, v144, (((), ()), v145), ()), v146, v147, v148, v149, v150, ((), ()), v151, ()))
                        else
                          bif decide (0 ≤ 0) && decide (0 ≤ (wr .i64 ((v142.length : Int) - 1))) && decide ((wr .i64 ((v142.length : Int) - 1)) ≤ (v142.length : Int)) then
                            let x185 : (List Int) := (sub v142 0 (wr .i64 ((v142.length : Int) - 1)))
                            bif decide (v133 = 0) then
                              f31a_l2 k j v131 v132 (wr .i64 (v133 + 1)) v134 v135 v136 v137 v138 v139 x185 v141 v142 v143 v144 v145 v146 v147 v148 v149 v150 v151 nx
                            else
                              bif decide (v133 = 1) then
                                f31a_l2 k j v131 v132 (wr .i64 (v133 + 1)) v134 v135 v136 v137 v138 v139 v140 x185 v142 v143 v144 v145 v146 v147 v148 v149 v150 v151 nx
                              else
                                bif decide (v133 = 2) then
                                  f31a_l2 k j v131 v132 (wr .i64 (v133 + 1)) v134 v135 v136 v137 v138 v139 v140 v141 x185 v143 v144 v145 v146 v147 v148 v149 v150 v151 nx
                                else
                                  bif decide (v133 = 3) then
                                    f31a_l2 k j v131 v132 (wr .i64 (v133 + 1)) v134 v135 v136 v137 v138 v139 v140 v141 v142 x185 v144 v145 v146 v147 v148 v149 v150 v151 nx
                                  else
                                    bif decide (v133 = 4) then
                                      f31a_l2 k j v131 v132 (wr .i64 (v133 + 1)) v134 v135 v136 v137 v138 v139 v140 v141 v142 v143 x185 v145 v146 v147 v148 v149 v150 v151 nx
                                    else
                                      none
                          else
                            none
                  else
                    bif decide (v133 = 3) then
                      bif (!x173.isSome) then
                        f31a_l2 k j v131 v132 (wr .i64 (v133 + 1)) v134 v135 v136 v137 v138 v139 v140 v141 v142 v143 v144 v145 v146 v147 v148 v149 v150 v151 nx
                      else
                        (f30 k v131 (x173.getD 0)).bind fun x178 =>
                        bif (!x178.1.1) then
                          (f32 k v143).bind fun x179 =>
                          bif decide ((x179.2.1.length + [v132].length) * 8 ≤ roomy) then
                            bif decide (v133 = 0) then
                              f31a_l2 k j v131 v132 (wr .i64 (v133 + 1)) v134 v135 v136 v137 v138 v139 (x179.2.1 ++ [v132]) v141 v142 v143 v144 v145 v146 v147 v148 v149 v150 v151 nx
                            else
                              bif decide (v133 = 1) then
                                f31a_l2 k j v131 v132 (wr .i64 (v133 + 1)) v134 v135 v136 v137 v138 v139 v140 (x179.2.1 ++ [v132]) v142 v143 v144 v145 v146 v147 v148 v149 v150 v151 nx
                              else
                                bif decide (v133 = 2) then
                                  f31a_l2 k j v131 v132 (wr .i64 (v133 + 1)) v134 v135 v136 v137 v138 v139 v140 v141 (x179.2.1 ++ [v132]) v143 v144 v145 v146 v147 v148 v149 v150 v151 nx
                                else
                                  bif decide (v133 = 3) then
                                    f31a_l2 k j v131 v132 (wr .i64 (v133 + 1)) v134 v135 v136 v137 v138 v139 v140 v141 v142 (x179.2.1 ++ [v132]) v144 v145 v146 v147 v148 v149 v150 v151 nx
                                  else
                                    bif decide (v133 = 4) then
                                      f31a_l2 k j v131 v132 (wr .i64 (v133 + 1)) v134 v135 v136 v137 v138 v139 v140 v141 v142 v143 (x179.2.1 ++ [v132]) v145 v146 v147 v148 v149 v150 v151 nx
                                    else
                                      none
                          else
                            none
                        else
                          (getI v143 (wr .i64 ((v143.length : Int) - 1))).bind fun x180 =>
                          bif (x180 != (x173.getD 0)) then
                            nx.2.1 ((false, ()), ((v134, v135, v136, v137, v138, v139, v140, v141, v142, v143, v144, (((), ()), v145), ()), v146, v147, v148, v149, v150, ((), ()), v151, ()))
                          else
                            bif decide (0 ≤ 0) && decide (0 ≤ (wr .i64 ((v143.length : Int) - 1))) && decide ((wr .i64 ((v143.length : Int) - 1)) ≤ (v143.length : Int)) then
                              let x181 : (List Int) := (sub v143 0 (wr .i64 ((v143.length : Int) - 1)))
                              bif decide (v133 = 0) then
                                f31a_l2 k j v131 v132 (wr .i64 (v133 + 1)) v134 v135 v136 v137 v138 v139 x181 v141 v142 v143 v144 v145 v146 v147 v148 v149 v150 v151 nx
                              else
                                bif decide (v133 = 1) then
                                  f31a_l2 k j v131 v132 (wr .i64 (v133 + 1)) v134 v135 v136 v137 v138 v139 v140 x181 v142 v143 v144 v145 v146 v147 v148 v149 v150 v151 nx
                                else
                                  bif decide (v133 = 2) then
                                    f31a_l2 k j v131 v132 (wr .i64 (v133 + 1)) v134 v135 v136 v137 v138 v139 v140 v141 x181 v143 v144 v145 v146 v147 v148 v149 v150 v151 nx
                                  else
                                    bif decide (v133 = 3) then
                                      f31a_l2 k j v131 v132 (wr .i64 (v133 + 1)) v134 v135 v136 v137 v138 v139 v140 v141 v142 x181 v144 v145 v146 v147 v148 v149 v150 v151 nx
                                    else
                                      bif decide (v133 = 4) then
                                        f31a_l2 k j v131 v132 (wr .i64 (v133 + 1)) v134 v135 v136 v137 v138 v139 v140 v141 v142 v143 x181 v145 v146 v147 v148 v149 v150 v151 nx
                                      else
                                        none
                            else
                              none
                    else
                      bif decide (v133 = 4) then
                        bif (!x173.isSome) then
                          f31a_l2 k j v131 v132 (wr .i64 (v133 + 1)) v134 v135 v136 v137 v138 v139 v140 v141 v142 v143 v144 v145 v146 v147 v148 v149 v150 v151 nx
                        else
                          (f30 k v131 (x173.getD 0)).bind fun x174 =>
                          bif (!x174.1.1) then
                            (f32 k v144).bind fun x175 =>
                            bif decide ((x175.2.1.length + [v132].length) * 8 ≤ roomy) then
                              bif decide (v133 = 0) then
                                f31a_l2 k j v131 v132 (wr .i64 (v133 + 1)) v134 v135 v136 v137 v138 v139 (x175.2.1 ++ [v132]) v141 v142 v143 v144 v145 v146 v147 v148 v149 v150 v151 nx
                              else
                                bif decide (v133 = 1) then
                                  f31a_l2 k j v131 v132 (wr .i64 (v133 + 1)) v134 v135 v136 v137 v138 v139 v140 (x175.2.1 ++ [v132]) v142 v143 v144 v145 v146 v147 v148 v149 v150 v151 nx
                                else
                                  bif decide (v133 = 2) then
                                    f31a_l2 k j v131 v132 (wr .i64 (v133 + 1)) v134 v135 v136 v137 v138 v139 v140 v141 (x175.2.1 ++ [v132]) v143 v144 v145 v146 v147 v148 v149 v150 v151 nx
                                  else
                                    bif decide (v133 = 3) then
                                      f31a_l2 k j v131 v132 (wr .i64 (v133 + 1)) v134 v135 v136 v137 v138 v139 v140 v141 v142 (x175.2.1 ++ [v132]) v144 v145 v146 v147 v148 v149 v150 v151 nx
                                    else
                                      bif decide (v133 = 4) then
                                        f31a_l2 k j v131 v132 (wr .i64 (v133 + 1)) v134 v135 v136 v137 v138 v139 v140 v141 v142 v143 (x175.2.1 ++ [v132]) v145 v146 v147 v148 v149 v150 v151 nx
                                      else
                                        none
                            else
                              none
                          else
                            (getI v144 (wr .i64 ((v144.length : Int) - 1))).bind fun x176 =>
                            bif (x176 != (x173.getD 0)) then
                              nx.2.1 ((false, ()), ((v134, v135, v136, v137, v138, v139, v140, v141, v142, v143, v144, (((), ()), v145), ()), v146, v147, v148, v149, v150, ((), ()), v151, ()))
                            else
                              bif decide (0 ≤ 0) && decide (0 ≤ (wr .i64 ((v144.length : Int) - 1))) && decide ((wr .i64 ((v144.length : Int) - 1)) ≤ (v144.length : Int)) then
                                let x177 : (List Int) := (sub v144 0 (wr .i64 ((v144.length : Int) - 1)))
                                bif decide (v133 = 0) then
                                  f31a_l2 k j v131 v132 (wr .i64 (v133 + 1)) v134 v135 v136 v137 v138 v139 x177 v141 v142 v143 v144 v145 v146 v147 v148 v149 v150 v151 nx
                                else
                                  bif decide (v133 = 1) then
                                    f31a_l2 k j v131 v132 (wr .i64 (v133 + 1)) v134 v135 v136 v137 v138 v139 v140 x177 v142 v143 v144 v145 v146 v147 v148 v149 v150 v151 nx
                                  else
                                    bif decide (v133 = 2) then
                                      f31a_l2 k j v131 v132 (wr .i64 (v133 + 1)) v134 v135 v136 v137 v138 v139 v140 v141 x177 v143 v144 v145 v146 v147 v148 v149 v150 v151 nx
                                    else
                                      bif decide (v133 = 3) then
                                        f31a_l2 k j v131 v132 (wr .i64 (v133 + 1)) v134 v135 v136 v137 v138 v139 v140 v141 v142 x177 v144 v145 v146 v147 v148 v149 v150 v151 nx
                                      else
                                        bif decide (v133 = 4) then
                                          f31a_l2 k j v131 v132 (wr .i64 (v133 + 1)) v134 v135 v136 v137 v138 v139 v140 v141 v142 v143 x177 v145 v146 v147 v148 v149 v150 v151 nx
                                        else
                                          none
                              else
                                none
                      else
                        none
            else
              bif decide (v133 = 4) then
                let x152 : (Option Int) := (mapGet (fun (a b : Int) => a == b) v132 v150)
                bif decide (v133 = 0) then
                  bif (!x152.isSome) then
                    f31a_l2 k j v131 v132 (wr .i64 (v133 + 1)) v134 v135 v136 v137 v138 v139 v140 v141 v142 v143 v144 v145 v146 v147 v148 v149 v150 v151 nx
                  else
                    (f30 k v131 (x152.getD 0)).bind fun x169 =>
                    bif (!x169.1.1) then
                      (f32 k v140).bind fun x170 =>
                      bif decide ((x170.2.1.length + [v132].length) * 8 ≤ roomy) then
                        bif decide (v133 = 0) then
                          f31a_l2 k j v131 v132 (wr .i64 (v133 + 1)) v134 v135 v136 v137 v138 v139 (x170.2.1 ++ [v132]) v141 v142 v143 v144 v145 v146 v147 v148 v149 v150 v151 nx
                        else
                          bif decide (v133 = 1) then
                            f31a_l2 k j v131 v132 (wr .i64 (v133 + 1)) v134 v135 v136 v137 v138 v139 v140 (x170.2.1 ++ [v132]) v142 v143 v144 v145 v146 v147 v148 v149 v150 v151 nx
                          else
                            bif decide (v133 = 2) then
                              f31a_l2 k j v131 v132 (wr .i64 (v133 + 1)) v134 v135 v136 v137 v138 v139 v140 v141 (x170.2.1 ++ [v132]) v143 v144 v145 v146 v147 v148 v149 v150 v151 nx
                            else
                              bif decide (v133 = 3) then
                                f31a_l2 k j v131 v132 (wr .i64 (v133 + 1)) v134 v135 v136 v137 v138 v139 v140 v141 v142 (x170.2.1 ++ [v132]) v144 v145 v146 v147 v148 v149 v150 v151 nx
                              else
                                bif decide (v133 = 4) then
                                  f31a_l2 k j v131 v132 (wr .i64 (v133 + 1)) v134 v135 v136 v137 v138 v139 v140 v141 v142 v143 (x170.2.1 ++ [v132]) v145 v146 v147 v148 v149 v150 v151 nx
                                else
                                  none
                      else
                        none
                    else
                      (getI v140 (wr .i64 ((v140.length : Int) - 1))).bind fun x171 =>
                      bif (x171 != (x152.getD 0)) then
                        nx.2.1 ((false, ()), ((v134, v135, v136, v137, v138, v139, v140, v141, v142, v143, v144, (((), ()), v145), ()), v146, v147, v148, v149, v150, ((), ()), v151, ()))
                      else
                        bif decide (0 ≤ 0) && decide (0 ≤ (wr .i64 ((v140.length : Int) - 1))) && decide ((wr .i64 ((v140.length : Int) - 1)) ≤ (v140.length : Int)) then
                          let x172 : (List Int) := (sub v140 0 (wr .i64 ((v140.length : Int) - 1)))
                          bif decide (v133 = 0) then
                            f31a_l2 k j v131 v132 (wr .i64 (v133 + 1)) v134 v135 v136 v137 v138 v139 x172 v141 v142 v143 v144 v145 v146 v147 v148 v149 v150 v151 nx
                          else
                            bif decide (v133 = 1) then
                              f31a_l2 k j v131 v132 (wr .i64 (v133 + 1)) v134 v135 v136 v137 v138 v139 v140 x172 v142 v143 v144 v145 v146 v147 v148 v149 v150 v151 nx
                            else
                              bif decide (v133 = 2) then
                                f31a_l2 k j v131 v132 (wr .i64 (v133 + 1)) v134 v135 v136 v137 v138 v139 v140 v141 x172 v143 v144 v145 v146 v147 v148 v149 v150 v151 nx
                              else
                                bif decide (v133 = 3) then
                                  f31a_l2 k j v131 v132 (wr .i64 (v133 + 1)) v134 v135 v136 v137 v138 v139 v140 v141 v142 x172 v144 v145 v146 v147 v148 v149 v150 v151 nx
                                else
                                  bif decide (v133 = 4) then
                                    f31a_l2 k j v131 v132 (wr .i64 (v133 + 1)) v134 v135 v136 v137 v138 v139 v140 v141 v142 v143 x172 v145 v146 v147 v148 v149 v150 v151 nx
                                  else
                                    none
                        else
                          none
                else
                  bif decide (v133 = 1) then
                    bif (!x152.isSome) then
                      f31a_l2 k j v131 v132 (wr .i64 (v133 + 1)) v134 v135 v136 v137 v138 v139 v140 v141 v142 v143 v144 v145 v146 v147 v148 v149 v150 v151 nx
                    else
                      (f30 k v131 (x152.getD 0)).bind fun x165 =>
                      bif (!x165.1.1) then
                        (f32 k v141).bind fun x166 =>
                        bif decide ((x166.2.1.length + [v132].length) * 8 ≤ roomy) then
                          bif decide (v133 = 0) then
                            f31a_l2 k j v131 v132 (wr .i64 (v133 + 1)) v134 v135 v136 v137 v138 v139 (x166.2.1 ++ [v132]) v141 v142 v143 v144 v145 v146 v147 v148 v149 v150 v151 nx
                          else
                            bif decide (v133 = 1) then
                              f31a_l2 k j v131 v132 (wr .i64 (v133 + 1)) v134 v135 v136 v137 v138 v139 v140 (x166.2.1 ++ [v132]) v142 v143 v144 v145 v146 v147 v148 v149 v150 v151 nx
                            else
                              bif decide (v133 = 2) then
                                f31a_l2 k j v131 v132 (wr .i64 (v133 + 1)) v134 v135 v136 v137 v138 v139 v140 v141 (x166.2.1 ++ [v132]) v143 v144 v145 v146 v147 v148 v149 v150 v151 nx
                              else
                                bif decide (v133 = 3) then
                                  f31a_l2 k j v131 v132 (wr .i64 (v133 + 1)) v134 v135 v136 v137 v138 v139 v140 v141 v142 (x166.2.1 ++ [v132]) v144 v145 v146 v147 v148 v149 v150 v151 nx
                                else
                                  bif decide (v133 = 4) then
                                    f31a_l2 k j v131 v132 (wr .i64 (v133 + 1)) v134 v135 v136 v137 v138 v139 v140 v141 v142 v143 (x166.2.1 ++ [v132]) v145 v146 v147 v148 v149 v150 v151 nx
                                  else
                                    none
                        else
                          none
                      else
                        (getI v141 (wr .i64 ((v141.length : Int) - 1))).bind fun x167 =>
                        bif (x167 != (x152.getD 0)) then
                          nx.2.1 ((false, ()), ((v134, v135, v136, v137, v138, v139, v140, v141, v142, v143, v144, (((), ()), v145), ()), v146, v147, v148, v149, v150, ((), ()), v151, ()))
                        else
                          bif decide (0 ≤ 0) && decide (0 ≤ (wr .i64 ((v141.length : Int) - 1))) && decide ((wr .i64 ((v141.length : Int) - 1)) ≤ (v141.length : Int)) then
                            let x168 : (List Int) := (sub v141 0 (wr .i64 ((v141.length : Int) - 1)))
                            bif decide (v133 = 0) then
                              f31a_l2 k j v131 v132 (wr .i64 (v133 + 1)) v134 v135 v136 v137 v138 v139 x168 v141 v142 v143 v144 v145 v146 v147 v148 v149 v150 v151 nx
                            else
                              bif decide (v133 = 1) then
                                f31a_l2 k j v131 v132 (wr .i64 (v133 + 1)) v134 v135 v136 v137 v138 v139 v140 x168 v142 v143 v144 v145 v146 v147 v148 v149 v150 v151 nx
                              else
                                bif decide (v133 = 2) then
                                  f31a_l2 k j v131 v132 (wr .i64 (v133 + 1)) v134 v135 v136 v137 v138 v139 v140 v141 x168 v143 v144 v145 v146 v147 v148 v149 v150 v151 nx
                                else
                                  bif decide (v133 = 3) then
                                    f31a_l2 k j v131 v132 (wr .i64 (v133 + 1)) v134 v135 v136 v137 v138 v139 v140 v141 v142 x168 v144 v145 v146 v147 v148 v149 v150 v151 nx
                                  else
                                    bif decide (v133 = 4) then
                                      f31a_l2 k j v131 v132 (wr .i64 (v133 + 1)) v134 v135 v136 v137 v138 v139 v140 v141 v142 v143 x168 v145 v146 v147 v148 v149 v150 v151 nx
                                    else
                                      none
                          else
                            none
                  else
                    bif decide (v133 = 2) then
                      bif (!x152.isSome) then
                        f31a_l2 k j v131 v132 (wr .i64 (v133 + 1)) v134 v135 v136 v137 v138 v139 v140 v141 v142 v143 v144 v145 v146 v147 v148 v149 v150 v151 nx
                      else
                        (f30 k v131 (x152.getD 0)).bind fun x161 =>
                        bif (!x161.1.1) then
                          (f32 k v142).bind fun x162 =>
                          bif decide ((x162.2.1.length + [v132].length) * 8 ≤ roomy) then
                            bif decide (v133 = 0) then
                              f31a_l2 k j v131 v132 (wr .i64 (v133 + 1)) v134 v135 v136 v137 v138 v139 (x162.2.1 ++ [v132]) v141 v142 v143 v144 v145 v146 v147 v148 v149 v150 v151 nx
                            else
                              bif decide (v133 = 1) then
                                f31a_l2 k j v131 v132 (wr .i64 (v133 + 1)) v134 v135 v136 v137 v138 v139 v140 (x162.2.1 ++ [v132]) v142 v143 v144 v145 v146 v147 v148 v149 v150 v151 nx
                              else
                                bif decide (v133 = 2) then
                                  f31a_l2 k j v131 v132 (wr .i64 (v133 + 1)) v134 v135 v136 v137 v138 v139 v140 v141 (x162.2.1 ++ [v132]) v143 v144 v145 v146 v147 v148 v149 v150 v151 nx
                                else
                                  bif decide (v133 = 3) then
                                    f31a_l2 k j v131 v132 (wr .i64 (v133 + 1)) v134 v135 v136 v137 v138 v139 v140 v141 v142 (x162.2.1 ++ [v132]) v144 v145 v146 v147 v148 v149 v150 v151 nx
                                  else
                                    bif decide (v133 = 4) then
                                      f31a_l2 k j v131 v132 (wr .i64 (v133 + 1)) v134 v135 v136 v137 v138 v139 v140 v141 v142 v143 (x162.2.1 ++ [v132]) v145 v146 v147 v148 v149 v150 v151 nx
                                    else
                                      none
                          else
                            none
                        else
                          (getI v142 (wr .i64 ((v142.length : Int) - 1))).bind fun x163 =>
                          bif (x163 != (x152.getD 0)) then
                            nx.2.1 ((false, ()), ((v134, v135, v136, v137, v138, v139, v140, v141, v142, v143, v144, (((), ()), v145), ()), v146, v147, v148, v149, v150, ((), ()), v151, ()))
                          else
                            bif decide (0 ≤ 0) && decide (0 ≤ (wr .i64 ((v142.length : Int) - 1))) && decide ((wr .i64 ((v142.length : Int) - 1)) ≤ (v142.length : Int)) then
                              let x164 : (List Int) := (sub v142 0 (wr .i64 ((v142.length : Int) - 1)))
                              bif decide (v133 = 0) then
                                f31a_l2 k j v131 v132 (wr .i64 (v133 + 1)) v134 v135 v136 v137 v138 v139 x164 v141 v142 v143 v144 v145 v146 v147 v148 v149 v150 v151 nx
                              else
                                bif decide (v133 = 1) then
                                  f31a_l2 k j v131 v132 (wr .i64 (v133 + 1)) v134 v135 v136 v137 v138 v139 v140 x164 v142 v143 v144 v145 v146 v147 v148 v149 v150 v151 nx
                                else
                                  bif decide (v133 = 2) then
                                    f31a_l2 k j v131 v132 (wr .i64 (v133 + 1)) v134 v135 v136 v137 v138 v139 v140 v141 x164 v143 v144 v145 v146 v147 v148 v149 v150 v151 nx
                                  else
                                    bif decide (v133 = 3) then
                                      f31a_l2 k j v131 v132 (wr .i64 (v133 + 1)) v134 v135 v136 v137 v138 v139 v140 v141 v142 x164 v144 v145 v146 v147 v148 v149 v150 v151 nx
                                    else
                                      bif decide (v133 = 4) then
                                        f31a_l2 k j v131 v132 (wr .i64 (v133 + 1)) v134 v135 v136 v137 v138 v139 v140 v141 v142 v143 x164 v145 v146 v147 v148 v149 v150 v151 nx
                                      else
                                        none
                            else
                              none
                    else
                      bif decide (v133 = 3) then
                        bif (!x152.isSome) then
                          f31a_l2 k j v131 v132 (wr .i64 (v133 + 1)) v134 v135 v136 v137 v138 v139 v140 v141 v142 v143 v144 v145 v146 v147 v148 v149 v150 v151 nx
                        else
                          (f30 k v131 (x152.getD 0)).bind fun x157 =>
                          bif (!x157.1.1) then
                            (f32 k v143).bind fun x158 =>
                            bif decide ((x158.2.1.length + [v132].length) * 8 ≤ roomy) then
                              bif decide (v133 = 0) then
                                f31a_l2 k j v131 v132 (wr .i64 (v133 + 1)) v134 v135 v136 v137 v138 v139 (x158.2.1 ++ [v132]) v141 v142 v143 v144 v145 v146 v147 v148 v149 v150 v151 nx
                              else
                                bif decide (v133 = 1) then
                                  f31a_l2 k j v131 v132 (wr .i64 (v133 + 1)) v134 v135 v136 v137 v138 v139 v140 (x158.2.1 ++ [v132]) v142 v143 v144 v145 v146 v147 v148 v149 v150 v151 nx
                                else
                                  bif decide (v133 = 2) then
                                    f31a_l2 k j v131 v132 (wr .i64 (v133 + 1)) v134 v135 v136 v137 v138 v139 v140 v141 (x158.2.1 ++ [v132]) v143 v144 v145 v146 v147 v148 v149 v150 v151 nx
                                  else
                                    bif decide (v133 = 3) then
                                      f31a_l2 k j v131 v132 (wr .i64 (v133 + 1)) v134 v135 v136 v137 v138 v139 v140 v141 v142 (x158.2.1 ++ [v132]) v144 v145 v146 v147 v148 v149 v150 v151 nx
                                    else
                                      bif decide (v133 = 4) then
                                        f31a_l2 k j v131 v132 (wr .i64 (v133 + 1)) v134 v135 v136 v137 v138 v139 v140 v141 v142 v143 (x158.2.1 ++ [v132]) v145 v146 v147 v148 v149 v150 v151 nx
                                      else
                                        none
                            else
                              none
                          else
                            (getI v143 (wr .i64 ((v143.length : Int) - 1))).bind fun x159 =>
                            bif (x159 != (x152.getD 0)) then
                              nx.2.1 ((false, ()), ((v134, v135, v136, v137, v138, v139, v140, v141, v142, v143, v144, (((), ()), v145), ()), v146, v147, v148, v149, v150, ((), ()), v151, ()))
                            else
                              bif decide (0 ≤ 0) && decide (0 ≤ (wr .i64 ((v143.length : Int) - 1))) && decide ((wr .i64 ((v143.length : Int) - 1)) ≤ (v143.length : Int)) then
                                let x160 : (List Int) := (sub v143 0 (wr .i64 ((v143.length : Int) - 1)))
                                bif decide (v133 = 0) then
                                  f31a_l2 k j v131 v132 (wr .i64 (v133 + 1)) v134 v135 v136 v137 v138 v139 x160 v141 v142 v143 v144 v145 v146 v147 v148 v149 v150 v151 nx
                                else
                                  bif decide (v133 = 1) then
                                    f31a_l2 k j v131 v132 (wr .i64 (v133 + 1)) v134 v135 v136 v137 v138 v139 v140 x160 v142 v143 v144 v145 v146 v147 v148 v149 v150 v151 nx
                                  else
                                    bif decide (v133 = 2) then
                                      f31a_l2 k j v131 v132 (wr .i64 (v133 + 1)) v134 v135 v136 v137 v138 v139 v140 v141 x160 v143 v144 v145 v146 v147 v148 v149 v150 v151 nx
                                    else
                                      bif decide (v133 = 3) then
                                        f31a_l2 k j v131 v132 (wr .i64 (v133 + 1)) v134 v135 v136 v137 v138 v139 v140 v141 v142 x160 v144 v145 v146 v147 v148 v149 v150 v151 nx
                                      else
                                        bif decide (v133 = 4) then
                                          f31a_l2 k j v131 v132 (wr .i64 (v133 + 1)) v134 v135 v136 v137 v138 v139 v140 v141 v142 v143 x160 v145 v146 v147 v148 v149 v150 v151 nx
                                        else
                                          none
                              else
                                none
                      else
                        bif decide (v133 = 4) then
                          bif (!x152.isSome) then
                            f31a_l2 k j v131 v132 (wr .i64 (v133 + 1)) v134 v135 v136 v137 v138 v139 v140 v141 v142 v143 v144 v145 v146 v147 v148 v149 v150 v151 nx
                          else
                            (f30 k v131 (x152.getD 0)).bind fun x153 =>
                            bif (!x153.1.1) then
                              (f32 k v144).bind fun x154 =>
                              bif decide ((x154.2.1.length + [v132].length) * 8 ≤ roomy) then
                                bif decide (v133 = 0) then
                                  f31a_l2 k j v131 v132 (wr .i64 (v133 + 1)) v134 v135 v136 v137 v138 v139 (x154.2.1 ++ [v132]) v141 v142 v143 v144 v145 v146 v147 v148 v149 v150 v151 nx
                                else
                                  bif decide (v133 = 1) then
                                    f31a_l2 k j v131 v132 (wr .i64 (v133 + 1)) v134 v135 v136 v137 v138 v139 v140 (x154.2.1 ++ [v132]) v142 v143 v144 v145 v146 v147 v148 v149 v150 v151 nx
                                  else
                                    bif decide (v133 = 2) then
                                      f31a_l2 k j v131 v132 (wr .i64 (v133 + 1)) v134 v135 v136 v137 v138 v139 v140 v141 (x154.2.1 ++ [v132]) v143 v144 v145 v146 v147 v148 v149 v150 v151 nx
                                    else
                                      bif decide (v133 = 3) then
                                        f31a_l2 k j v131 v132 (wr .i64 (v133 + 1)) v134 v135 v136 v137 v138 v139 v140 v141 v142 (x154.2.1 ++ [v132]) v144 v145 v146 v147 v148 v149 v150 v151 nx
                                      else
                                        bif decide (v133 = 4) then
                                          f31a_l2 k j v131 v132 (wr .i64 (v133 + 1)) v134 v135 v136 v137 v138 v139 v140 v141 v142 v143 (x154.2.1 ++ [v132]) v145 v146 v147 v148 v149 v150 v151 nx
                                        else
                                          none
                              else
                                none
                            else
                              (getI v144 (wr .i64 ((v144.length : Int) - 1))).bind fun x155 =>
                              bif (x155 != (x152.getD 0)) then
                                nx.2.1 ((false, ()), ((v134, v135, v136, v137, v138, v139, v140, v141, v142, v143, v144, (((), ()), v145), ()), v146, v147, v148, v149, v150, ((), ()), v151, ()))
                              else
                                bif decide (0 ≤ 0) && decide (0 ≤ (wr .i64 ((v144.length : Int) - 1))) && decide ((wr .i64 ((v144.length : Int) - 1)) ≤ (v144.length : Int)) then
                                  let x156 : (List Int) := (sub v144 0 (wr .i64 ((v144.length : Int) - 1)))
                                  bif decide (v133 = 0) then
                                    f31a_l2 k j v131 v132 (wr .i64 (v133 + 1)) v134 v135 v136 v137 v138 v139 x156 v141 v142 v143 v144 v145 v146 v147 v148 v149 v150 v151 nx
                                  else
                                    bif decide (v133 = 1) then
                                      f31a_l2 k j v131 v132 (wr .i64 (v133 + 1)) v134 v135 v136 v137 v138 v139 v140 x156 v142 v143 v144 v145 v146 v147 v148 v149 v150 v151 nx
                                    else
                                      bif decide (v133 = 2) then
                                        f31a_l2 k j v131 v132 (wr .i64 (v133 + 1)) v134 v135 v136 v137 v138 v139 v140 v141 x156 v143 v144 v145 v146 v147 v148 v149 v150 v151 nx
                                      else
                                        bif decide (v133 = 3) then
                                          f31a_l2 k j v131 v132 (wr .i64 (v133 + 1)) v134 v135 v136 v137 v138 v139 v140 v141 v142 x156 v144 v145 v146 v147 v148 v149 v150 v151 nx
                                        else
                                          bif decide (v133 = 4) then
                                            f31a_l2 k j v131 v132 (wr .i64 (v133 + 1)) v134 v135 v136 v137 v138 v139 v140 v141 v142 v143 x156 v145 v146 v147 v148 v149 v150 v151 nx
                                          else
                                            none
                                else
                                  none
                        else
                          none
              else
                none
    else
      nx.1 ((), ((v134, v135, v136, v137, v138, v139, v140, v141, v142, v143, v144, (((), ()), v145), ()), v146, v147, v148, v149, v150, ((), ()), v151, ()))
def cf31a_l2 (k : Nat) : Cut := { sp := { temps := [(0, .c (.lit (.ptr 3000000 0 0 0))), (1, .c (.sl (.int .i64))), (2, .c (.int .i64)), (7, .c (.int .i64))], blocks := [(3000000, .box 49 [(.int .i64), (.mapl 3000001), (.mapl 3000002), (.mapl 3000003), (.mapl 3000004), (.mapl 3000005), (.sl (.int .i64)), (.sl (.int .i64)), (.sl (.int .i64)), (.sl (.int .i64)), (.sl (.int .i64)), (.cap (.cap (.lit (.fn 20)) (.lit (.ptr 3000006 0 0 0))) (.dp (.int .i64)))]), (3000001, .mp 45 false false (.int .i64) (.int .i64)), (3000002, .mp 45 false false (.int .i64) (.int .i64)), (3000003, .mp 45 false false (.int .i64) (.int .i64)), (3000004, .mp 45 false false (.int .i64) (.int .i64)), (3000005, .mp 45 false false (.int .i64) (.int .i64)), (3000006, .box 25 [(.lit (.row 3000007))]), (3000007, .own 38 (.s 2 (.d (.int .i64))))], ren := [(3000000, some 3000000), (3000001, some 3000001), (3000002, some 3000002), (3000003, some 3000003), (3000004, some 3000004), (3000005, some 3000005), (3000006, some 3000006), (3000007, some 3000007)] }, outs := [(.exit 0, { temps := [], blocks := [(3000000, .box 49 [(.int .i64), (.mapl 3000001), (.mapl 3000002), (.mapl 3000003), (.mapl 3000004), (.mapl 3000005), (.sl (.int .i64)), (.sl (.int .i64)), (.sl (.int .i64)), (.sl (.int .i64)), (.sl (.int .i64)), (.cap (.cap (.lit (.fn 20)) (.lit (.ptr 3000006 0 0 0))) (.dp (.int .i64)))]), (3000001, .mp 45 false false (.int .i64) (.int .i64)), (3000002, .mp 45 false false (.int .i64) (.int .i64)), (3000003, .mp 45 false false (.int .i64) (.int .i64)), (3000004, .mp 45 false false (.int .i64) (.int .i64)), (3000005, .mp 45 false false (.int .i64) (.int .i64)), (3000006, .box 25 [(.lit (.row 3000007))]), (3000007, .own 38 (.s 2 (.d (.int .i64))))], ren := [(3000000, some 3000000), (3000001, some 3000001), (3000002, some 3000002), (3000003, some 3000003), (3000004, some 3000004), (3000005, some 3000005), (3000006, some 3000006), (3000007, some 3000007)] }), (.ret, { temps := [(6, .c .bool)], blocks := [(3000000, .box 49 [(.int .i64), (.mapl 3000001), (.mapl 3000002), (.mapl 3000003), (.mapl 3000004), (.mapl 3000005), (.sl (.int .i64)), (.sl (.int .i64)), (.sl (.int .i64)), (.sl (.int .i64)), (.sl (.int .i64)), (.cap (.cap (.lit (.fn 20)) (.lit (.ptr 3000006 0 0 0))) (.dp (.int .i64)))]), (3000001, .mp 45 false false (.int .i64) (.int .i64)), (3000002, .mp 45 false false (.int .i64) (.int .i64)), (3000003, .mp 45 false false (.int .i64) (.int .i64)), (3000004, .mp 45 false false (.int .i64) (.int .i64)), (3000005, .mp 45 false false (.int .i64) (.int .i64)), (3000006, .box 25 [(.lit (.row 3000007))]), (3000007, .own 38 (.s 2 (.d (.int .i64))))], ren := [(3000000, some 3000000), (3000001, some 3000001), (3000002, some 3000002), (3000003, some 3000003), (3000004, some 3000004), (3000005, some 3000005), (3000006, some 3000006), (3000007, some 3000007)] })], F := fun ρ j v nx => f31a_l2 k j v.1.2.1 v.1.2.2.1 v.1.2.2.2.1 v.2.1.1 v.2.1.2.1 v.2.1.2.2.1 v.2.1.2.2.2.1 v.2.1.2.2.2.2.1 v.2.1.2.2.2.2.2.1 v.2.1.2.2.2.2.2.2.1 v.2.1.2.2.2.2.2.2.2.1 v.2.1.2.2.2.2.2.2.2.2.1 v.2.1.2.2.2.2.2.2.2.2.2.1 v.2.1.2.2.2.2.2.2.2.2.2.2.1 v.2.1.2.2.2.2.2.2.2.2.2.2.2.1.2 v.2.2.1 v.2.2.2.1 v.2.2.2.2.1 v.2.2.2.2.2.1 v.2.2.2.2.2.2.1 v.2.2.2.2.2.2.2.2.1 nx }
def f31a (k : Nat) (a1 : (List Int)) (a2 : Int) (a3 : Int) (a4 : Bool) (a5 : Bool) (a6 : Bool) (a7 : Bool) (a8 : Bool) (a9 : (List Int)) (a10 : (List Int)) (a11 : (List Int)) (a12 : (List Int)) (a13 : (List Int)) (a14 : Int) (a15 : (List (Int × Int))) (a16 : (List (Int × Int))) (a17 : (List (Int × Int))) (a18 : (List (Int × Int))) (a19 : (List (Int × Int))) (a20 : (List (List Int))) : Option ((Bool × Unit) × ((Int × Bool × Bool × Bool × Bool × Bool × (List Int) × (List Int) × (List Int) × (List Int) × (List Int) × ((Unit × Unit) × Int) × Unit) × (List (Int × Int)) × (List (Int × Int)) × (List (Int × Int)) × (List (Int × Int)) × (List (Int × Int)) × (Unit × Unit) × (List (List Int)) × Unit)) :=
  f31a_l2 k k a1 a2 1 a3 a4 a5 a6 a7 a8 a9 a10 a11 a12 a13 a14 a15 a16 a17 a18 a19 a20
    (fun x129 : (Unit × ((Int × Bool × Bool × Bool × Bool × Bool × (List Int) × (List Int) × (List Int) × (List Int) × (List Int) × ((Unit × Unit) × Int) × Unit) × (List (Int × Int)) × (List (Int × Int)) × (List (Int × Int)) × (List (Int × Int)) × (List (Int × Int)) × (Unit × Unit) × (List (List Int)) × Unit)) =>
      some ((true, ()), ((x129.2.1.1, x129.2.1.2.1, x129.2.1.2.2.1, x129.2.1.2.2.2.1, x129.2.1.2.2.2.2.1, x129.2.1.2.2.2.2.2.1, x129.2.1.2.2.2.2.2.2.1, x129.2.1.2.2.2.2.2.2.2.1, x129.2.1.2.2.2.2.2.2.2.2.1, x129.2.1.2.2.2.2.2.2.2.2.2.1, x129.2.1.2.2.2.2.2.2.2.2.2.2.1, (((), ()), x129.2.1.2.2.2.2.2.2.2.2.2.2.2.1.2), ()), x129.2.2.1, x129.2.2.2.1, x129.2.2.2.2.1, x129.2.2.2.2.2.1, x129.2.2.2.2.2.2.1, ((), ()), x129.2.2.2.2.2.2.2.2.1, ())),
    fun x130 : ((Bool × Unit) × ((Int × Bool × Bool × Bool × Bool × Bool × (List Int) × (List Int) × (List Int) × (List Int) × (List Int) × ((Unit × Unit) × Int) × Unit) × (List (Int × Int)) × (List (Int × Int)) × (List (Int × Int)) × (List (Int × Int)) × (List (Int × Int)) × (Unit × Unit) × (List (List Int)) × Unit)) =>
      some ((x130.1.1, ()), ((x130.2.1.1, x130.2.1.2.1, x130.2.1.2.2.1, x130.2.1.2.2.2.1, x130.2.1.2.2.2.2.1, x130.2.1.2.2.2.2.2.1, x130.2.1.2.2.2.2.2.2.1, x130.2.1.2.2.2.2.2.2.2.1, x130.2.1.2.2.2.2.2.2.2.2.1, x130.2.1.2.2.2.2.2.2.2.2.2.1, x130.2.1.2.2.2.2.2.2.2.2.2.2.1, (((), ()), x130.2.1.2.2.2.2.2.2.2.2.2.2.2.1.2), ()), x130.2.2.1, x130.2.2.2.1, x130.2.2.2.2.1, x130.2.2.2.2.2.1, x130.2.2.2.2.2.2.1, ((), ()), x130.2.2.2.2.2.2.2.2.1, ())),
    ())
def ef31a : Entry := { id := 31, ar := { temps := [(0, .c (.box 3000000)), (1, .c (.sl (.int .i64))), (2, .c (.int .i64))], blocks := [(3000000, .box 49 [(.int .i64), (.mapr 3000001), (.mapr 3000002), (.mapr 3000003), (.mapr 3000004), (.mapr 3000005), (.sl (.int .i64)), (.sl (.int .i64)), (.sl (.int .i64)), (.sl (.int .i64)), (.sl (.int .i64)), (.cap (.cap (.lit (.fn 20)) (.box 3000006)) (.dp (.int .i64)))]), (3000001, .mp 45 false false (.int .i64) (.int .i64)), (3000002, .mp 45 false false (.int .i64) (.int .i64)), (3000003, .mp 45 false false (.int .i64) (.int .i64)), (3000004, .mp 45 false false (.int .i64) (.int .i64)), (3000005, .mp 45 false false (.int .i64) (.int .i64)), (3000006, .box 25 [(.row 3000007)]), (3000007, .own 38 (.s 2 (.d (.int .i64))))], ren := [] }, res := { temps := [(0, .c .bool)], blocks := [(3000000, .box 49 [(.int .i64), (.mapl 3000001), (.mapl 3000002), (.mapl 3000003), (.mapl 3000004), (.mapl 3000005), (.sl (.int .i64)), (.sl (.int .i64)), (.sl (.int .i64)), (.sl (.int .i64)), (.sl (.int .i64)), (.cap (.cap (.lit (.fn 20)) (.lit (.ptr 3000006 0 0 0))) (.dp (.int .i64)))]), (3000001, .mp 45 false false (.int .i64) (.int .i64)), (3000002, .mp 45 false false (.int .i64) (.int .i64)), (3000003, .mp 45 false false (.int .i64) (.int .i64)), (3000004, .mp 45 false false (.int .i64) (.int .i64)), (3000005, .mp 45 false false (.int .i64) (.int .i64)), (3000006, .box 25 [(.lit (.row 3000007))]), (3000007, .own 38 (.s 2 (.d (.int .i64))))], ren := [(3000000, some 3000000), (3000001, some 3000001), (3000002, some 3000002), (3000003, some 3000003), (3000004, some 3000004), (3000005, some 3000005), (3000006, some 3000006), (3000007, some 3000007)] }, f := fun k v => f31a k v.1.2.1 v.1.2.2.1 v.2.1.1 v.2.1.2.1 v.2.1.2.2.1 v.2.1.2.2.2.1 v.2.1.2.2.2.2.1 v.2.1.2.2.2.2.2.1 v.2.1.2.2.2.2.2.2.1 v.2.1.2.2.2.2.2.2.2.1 v.2.1.2.2.2.2.2.2.2.2.1 v.2.1.2.2.2.2.2.2.2.2.2.1 v.2.1.2.2.2.2.2.2.2.2.2.2.1 v.2.1.2.2.2.2.2.2.2.2.2.2.2.1.2 v.2.2.1 v.2.2.2.1 v.2.2.2.2.1 v.2.2.2.2.2.1 v.2.2.2.2.2.2.1 v.2.2.2.2.2.2.2.2.1 }
def gf31a (k : Nat) : Full := { tt := tt, n := 69, fns := [ef30, ef32b], trunc := [], tails := [], touch := [(6, [(10, [3000000])]), (9, [(6, [2005300]), (10, [3000000])])], opens := [], shapes := [], closes := [], k := k, glob := glob, cuts := [(2, (cf31a_l2 k))], joins := [] }
theorem of31a_l2 (k : Nat) : CutOk (gf31a k) (cf31a_l2 k) (theLoop Try.f31 2) := fun ρ v nx => ⟨by kernel_rfl, fun j => by kernel_rfl⟩
theorem qf31a (k : Nat) : AllP (bodyL (gf31a k) Try.f31) := by
  have h : (CutOk (gf31a k) (cf31a_l2 k) (theLoop Try.f31 2) ∧ True) = AllP (bodyL (gf31a k) Try.f31) := by kernel_rfl
  exact Eq.mp h (And.intro (of31a_l2 k) (trivial))
theorem sf31a : Sound Try.prog glob ef31a := sound_of base (fn := Try.f31) Try.func31 (by kernel_rfl) gf31a (fun _ => ⟨rfl, rfl⟩) (fun k j => ⟨sf30.at j, sf32b.at j, trivial⟩) qf31a (fun k v => by kernel_rfl)

/-! impl.stacker).walk -/
def f17a_l4 {ρ : Type} (self : Int → Bool → Bool → Bool → Bool → Bool → (List Int) → (List Int) → (List Int) → (List Int) → (List Int) → Int → (List Int) → (List (Int × Int)) → (List (Int × Int)) → (List (Int × Int)) → (List (Int × Int)) → (List (Int × Int)) → (List (List Int)) → Option ((Bool × Unit) × ((Int × Bool × Bool × Bool × Bool × Bool × (List Int) × (List Int) × (List Int) × (List Int) × (List Int) × ((Unit × Unit) × Int) × Unit) × (List (Int × Int)) × (List (Int × Int)) × (List (Int × Int)) × (List (Int × Int)) × (List (Int × Int)) × (Unit × Unit) × (List (List Int)) × Unit))) (k : Nat) : Nat → (List Int) → Int → Int → Int → Bool → Bool → Bool → Bool → Bool → (List Int) → (List Int) → (List Int) → (List Int) → (List Int) → Int → (List (Int × Int)) → (List (Int × Int)) → (List (Int × Int)) → (List (Int × Int)) → (List (Int × Int)) → (List (List Int)) → (((Unit × ((Int × Bool × Bool × Bool × Bool × Bool × (List Int) × (List Int) × (List Int) × (List Int) × (List Int) × ((Unit × Unit) × Int) × Unit) × (List (Int × Int)) × (List (Int × Int)) × (List (Int × Int)) × (List (Int × Int)) × (List (Int × Int)) × (Unit × Unit) × (List (List Int)) × Unit)) → Option ρ) × (((Bool × Unit) × ((Int × Bool × Bool × Bool × Bool × Bool × (List Int) × (List Int) × (List Int) × (List Int) × (List Int) × ((Unit × Unit) × Int) × Unit) × (List (Int × Int)) × (List (Int × Int)) × (List (Int × Int)) × (List (Int × Int)) × (List (Int × Int)) × (Unit × Unit) × (List (List Int)) × Unit)) → Option ρ) × Unit) → Option ρ
  | 0, _, _, _, _, _, _, _, _, _, _, _, _, _, _, _, _, _, _, _, _, _, _ => none
  | j + 1, v65, v66, v67, v68, v69, v70, v71, v72, v73, v74, v75, v76, v77, v78, v79, v80, v81, v82, v83, v84, v85, nx =>
    bif (decide (v67 < v66)) then
      (f30 k v65 v67).bind fun x87 =>
      bif x87.1.1 then
        f17a_l4 self k j v65 v66 (wr .i64 (v67 + 1)) v68 v69 v70 v71 v72 v73 v74 v75 v76 v77 v78 v79 v80 v81 v82 v83 v84 v85 nx
      else
        (f31a k v65 v67 v68 v69 v70 v71 v72 v73 v74 v75 v76 v77 v78 v79 v80 v81 v82 v83 v84 v85).bind fun x88 =>
        bif x88.1.1 then
          (f32 k v65).bind fun x89 =>
          bif decide ((x89.2.1.length + [v67].length) * 8 ≤ roomy) then
            (self x88.2.1.1 x88.2.1.2.1 x88.2.1.2.2.1 x88.2.1.2.2.2.1 x88.2.1.2.2.2.2.1 x88.2.1.2.2.2.2.2.1 x88.2.1.2.2.2.2.2.2.1 x88.2.1.2.2.2.2.2.2.2.1 x88.2.1.2.2.2.2.2.2.2.2.1 x88.2.1.2.2.2.2.2.2.2.2.2.1 x88.2.1.2.2.2.2.2.2.2.2.2.2.1 x88.2.1.2.2.2.2.2.2.2.2.2.2.2.1.2 (x89.2.1 ++ [v67]) x88.2.2.1 x88.2.2.2.1 x88.2.2.2.2.1 x88.2.2.2.2.2.1 x88.2.2.2.2.2.2.1 x88.2.2.2.2.2.2.2.2.1).bind fun x90 =>
            bif (!x90.1.1) then
              nx.2.1 ((false, ()), ((x90.2.1.1, x90.2.1.2.1, x90.2.1.2.2.1, x90.2.1.2.2.2.1, x90.2.1.2.2.2.2.1, x90.2.1.2.2.2.2.2.1, x90.2.1.2.2.2.2.2.2.1, x90.2.1.2.2.2.2.2.2.2.1, x90.2.1.2.2.2.2.2.2.2.2.1, x90.2.1.2.2.2.2.2.2.2.2.2.1, x90.2.1.2.2.2.2.2.2.2.2.2.2.1, (((), ()), x90.2.1.2.2.2.2.2.2.2.2.2.2.2.1.2), ()), x90.2.2.1, x90.2.2.2.1, x90.2.2.2.2.1, x90.2.2.2.2.2.1, x90.2.2.2.2.2.2.1, ((), ()), x90.2.2.2.2.2.2.2.2.1, ()))
            else
              f17a_l4 self k j v65 v66 (wr .i64 (v67 + 1)) x90.2.1.1 x90.2.1.2.1 x90.2.1.2.2.1 x90.2.1.2.2.2.1 x90.2.1.2.2.2.2.1 x90.2.1.2.2.2.2.2.1 v74 v75 v76 v77 v78 x90.2.1.2.2.2.2.2.2.2.2.2.2.2.1.2 x90.2.2.1 x90.2.2.2.1 x90.2.2.2.2.1 x90.2.2.2.2.2.1 x90.2.2.2.2.2.2.1 x90.2.2.2.2.2.2.2.2.1 nx
          else
            none
        else
          f17a_l4 self k j v65 v66 (wr .i64 (v67 + 1)) x88.2.1.1 x88.2.1.2.1 x88.2.1.2.2.1 x88.2.1.2.2.2.1 x88.2.1.2.2.2.2.1 x88.2.1.2.2.2.2.2.1 v74 v75 v76 v77 v78 x88.2.1.2.2.2.2.2.2.2.2.2.2.2.1.2 x88.2.2.1 x88.2.2.2.1 x88.2.2.2.2.1 x88.2.2.2.2.2.1 x88.2.2.2.2.2.2.1 x88.2.2.2.2.2.2.2.2.1 nx
    else
      nx.1 ((), ((v68, v69, v70, v71, v72, v73, v74, v75, v76, v77, v78, (((), ()), v79), ()), v80, v81, v82, v83, v84, ((), ()), v85, ()))
def cf17a_l4 (self : Int → Bool → Bool → Bool → Bool → Bool → (List Int) → (List Int) → (List Int) → (List Int) → (List Int) → Int → (List Int) → (List (Int × Int)) → (List (Int × Int)) → (List (Int × Int)) → (List (Int × Int)) → (List (Int × Int)) → (List (List Int)) → Option ((Bool × Unit) × ((Int × Bool × Bool × Bool × Bool × Bool × (List Int) × (List Int) × (List Int) × (List Int) × (List Int) × ((Unit × Unit) × Int) × Unit) × (List (Int × Int)) × (List (Int × Int)) × (List (Int × Int)) × (List (Int × Int)) × (List (Int × Int)) × (Unit × Unit) × (List (List Int)) × Unit))) (k : Nat) : Cut := { sp := { temps := [(0, .c (.lit (.ptr 3000000 0 0 0))), (1, .c (.sl (.int .i64))), (23, .c (.int .i64)), (24, .c (.int .i64))], blocks := [(3000000, .box 49 [(.int .i64), (.mapl 3000002), (.mapl 3000003), (.mapl 3000004), (.mapl 3000005), (.mapl 3000006), (.sl (.int .i64)), (.sl (.int .i64)), (.sl (.int .i64)), (.sl (.int .i64)), (.sl (.int .i64)), (.cap (.cap (.lit (.fn 20)) (.lit (.ptr 3000007 0 0 0))) (.dp (.int .i64)))]), (3000002, .mp 45 false false (.int .i64) (.int .i64)), (3000003, .mp 45 false false (.int .i64) (.int .i64)), (3000004, .mp 45 false false (.int .i64) (.int .i64)), (3000005, .mp 45 false false (.int .i64) (.int .i64)), (3000006, .mp 45 false false (.int .i64) (.int .i64)), (3000007, .box 25 [(.row 5000000)]), (5000000, .own 38 (.s 2 (.d (.int .i64))))], ren := [(3000000, some 3000000), (3000002, some 3000002), (3000003, some 3000003), (3000004, some 3000004), (3000005, some 3000005), (3000006, some 3000006), (3000007, some 3000007)] }, outs := [(.exit 0, { temps := [], blocks := [(3000000, .box 49 [(.int .i64), (.mapl 3000002), (.mapl 3000003), (.mapl 3000004), (.mapl 3000005), (.mapl 3000006), (.sl (.int .i64)), (.sl (.int .i64)), (.sl (.int .i64)), (.sl (.int .i64)), (.sl (.int .i64)), (.cap (.cap (.lit (.fn 20)) (.lit (.ptr 3000007 0 0 0))) (.dp (.int .i64)))]), (3000002, .mp 45 false false (.int .i64) (.int .i64)), (3000003, .mp 45 false false (.int .i64) (.int .i64)), (3000004, .mp 45 false false (.int .i64) (.int .i64)), (3000005, .mp 45 false false (.int .i64) (.int .i64)), (3000006, .mp 45 false false (.int .i64) (.int .i64)), (3000007, .box 25 [(.row 5000000)]), (5000000, .own 38 (.s 2 (.d (.int .i64))))], ren := [(3000000, some 3000000), (3000002, some 3000002), (3000003, some 3000003), (3000004, some 3000004), (3000005, some 3000005), (3000006, some 3000006), (3000007, some 3000007)] }), (.ret, { temps := [(4, .c .bool)], blocks := [(3000000, .box 49 [(.int .i64), (.mapl 3000002), (.mapl 3000003), (.mapl 3000004), (.mapl 3000005), (.mapl 3000006), (.sl (.int .i64)), (.sl (.int .i64)), (.sl (.int .i64)), (.sl (.int .i64)), (.sl (.int .i64)), (.cap (.cap (.lit (.fn 20)) (.lit (.ptr 3000007 0 0 0))) (.dp (.int .i64)))]), (3000002, .mp 45 false false (.int .i64) (.int .i64)), (3000003, .mp 45 false false (.int .i64) (.int .i64)), (3000004, .mp 45 false false (.int .i64) (.int .i64)), (3000005, .mp 45 false false (.int .i64) (.int .i64)), (3000006, .mp 45 false false (.int .i64) (.int .i64)), (3000007, .box 25 [(.row 5000000)]), (5000000, .own 38 (.s 2 (.d (.int .i64))))], ren := [(3000000, some 3000000), (3000002, some 3000002), (3000003, some 3000003), (3000004, some 3000004), (3000005, some 3000005), (3000006, some 3000006), (3000007, some 3000007)] })], F := fun ρ j v nx => f17a_l4 self k j v.1.2.1 v.1.2.2.1 v.1.2.2.2.1 v.2.1.1 v.2.1.2.1 v.2.1.2.2.1 v.2.1.2.2.2.1 v.2.1.2.2.2.2.1 v.2.1.2.2.2.2.2.1 v.2.1.2.2.2.2.2.2.1 v.2.1.2.2.2.2.2.2.2.1 v.2.1.2.2.2.2.2.2.2.2.1 v.2.1.2.2.2.2.2.2.2.2.2.1 v.2.1.2.2.2.2.2.2.2.2.2.2.1 v.2.1.2.2.2.2.2.2.2.2.2.2.2.1.2 v.2.2.1 v.2.2.2.1 v.2.2.2.2.1 v.2.2.2.2.2.1 v.2.2.2.2.2.2.1 v.2.2.2.2.2.2.2.2.1 nx }
def f17a : Nat → Int → Bool → Bool → Bool → Bool → Bool → (List Int) → (List Int) → (List Int) → (List Int) → (List Int) → Int → (List Int) → (List (Int × Int)) → (List (Int × Int)) → (List (Int × Int)) → (List (Int × Int)) → (List (Int × Int)) → (List (List Int)) → Option ((Bool × Unit) × ((Int × Bool × Bool × Bool × Bool × Bool × (List Int) × (List Int) × (List Int) × (List Int) × (List Int) × ((Unit × Unit) × Int) × Unit) × (List (Int × Int)) × (List (Int × Int)) × (List (Int × Int)) × (List (Int × Int)) × (List (Int × Int)) × (Unit × Unit) × (List (List Int)) × Unit))
  | 0, _, _, _, _, _, _, _, _, _, _, _, _, _, _, _, _, _, _, _ => none
  | k + 1, a1, a2, a3, a4, a5, a6, a7, a8, a9, a10, a11, a12, a13, a14, a15, a16, a17, a18, a19 =>
    (f29 k a13).bind fun x61 =>
    bif (x61.1.1 == a1) then
      (f20 k a12 a13 a19).bind fun x62 =>
      some ((x62.1.1, ()), ((a1, a2, a3, a4, a5, a6, a7, a8, a9, a10, a11, (((), ()), a12), ()), a14, a15, a16, a17, a18, ((), ()), x62.2.2.1, ()))
    else
      f17a_l4 (f17a k) k k a13 a1 0 a1 a2 a3 a4 a5 a6 a7 a8 a9 a10 a11 a12 a14 a15 a16 a17 a18 a19
        (fun x63 : (Unit × ((Int × Bool × Bool × Bool × Bool × Bool × (List Int) × (List Int) × (List Int) × (List Int) × (List Int) × ((Unit × Unit) × Int) × Unit) × (List (Int × Int)) × (List (Int × Int)) × (List (Int × Int)) × (List (Int × Int)) × (List (Int × Int)) × (Unit × Unit) × (List (List Int)) × Unit)) =>
          some ((true, ()), ((x63.2.1.1, x63.2.1.2.1, x63.2.1.2.2.1, x63.2.1.2.2.2.1, x63.2.1.2.2.2.2.1, x63.2.1.2.2.2.2.2.1, x63.2.1.2.2.2.2.2.2.1, x63.2.1.2.2.2.2.2.2.2.1, x63.2.1.2.2.2.2.2.2.2.2.1, x63.2.1.2.2.2.2.2.2.2.2.2.1, x63.2.1.2.2.2.2.2.2.2.2.2.2.1, (((), ()), x63.2.1.2.2.2.2.2.2.2.2.2.2.2.1.2), ()), x63.2.2.1, x63.2.2.2.1, x63.2.2.2.2.1, x63.2.2.2.2.2.1, x63.2.2.2.2.2.2.1, ((), ()), x63.2.2.2.2.2.2.2.2.1, ())),
        fun x64 : ((Bool × Unit) × ((Int × Bool × Bool × Bool × Bool × Bool × (List Int) × (List Int) × (List Int) × (List Int) × (List Int) × ((Unit × Unit) × Int) × Unit) × (List (Int × Int)) × (List (Int × Int)) × (List (Int × Int)) × (List (Int × Int)) × (List (Int × Int)) × (Unit × Unit) × (List (List Int)) × Unit)) =>
          some ((x64.1.1, ()), ((x64.2.1.1, x64.2.1.2.1, x64.2.1.2.2.1, x64.2.1.2.2.2.1, x64.2.1.2.2.2.2.1, x64.2.1.2.2.2.2.2.1, x64.2.1.2.2.2.2.2.2.1, x64.2.1.2.2.2.2.2.2.2.1, x64.2.1.2.2.2.2.2.2.2.2.1, x64.2.1.2.2.2.2.2.2.2.2.2.1, x64.2.1.2.2.2.2.2.2.2.2.2.2.1, (((), ()), x64.2.1.2.2.2.2.2.2.2.2.2.2.2.1.2), ()), x64.2.2.1, x64.2.2.2.1, x64.2.2.2.2.1, x64.2.2.2.2.2.1, x64.2.2.2.2.2.2.1, ((), ()), x64.2.2.2.2.2.2.2.2.1, ())),
        ())
def ef17a : Entry := { id := 17, ar := { temps := [(0, .c (.box 3000000)), (1, .c (.row 3000001))], blocks := [(3000000, .box 49 [(.int .i64), (.mapr 3000002), (.mapr 3000003), (.mapr 3000004), (.mapr 3000005), (.mapr 3000006), (.sl (.int .i64)), (.sl (.int .i64)), (.sl (.int .i64)), (.sl (.int .i64)), (.sl (.int .i64)), (.cap (.cap (.lit (.fn 20)) (.box 3000007)) (.dp (.int .i64)))]), (3000001, .row 2 (.int .i64)), (3000002, .mp 45 false false (.int .i64) (.int .i64)), (3000003, .mp 45 false false (.int .i64) (.int .i64)), (3000004, .mp 45 false false (.int .i64) (.int .i64)), (3000005, .mp 45 false false (.int .i64) (.int .i64)), (3000006, .mp 45 false false (.int .i64) (.int .i64)), (3000007, .box 25 [(.row 3000008)]), (3000008, .own 38 (.s 2 (.d (.int .i64))))], ren := [] }, res := { temps := [(0, .c .bool)], blocks := [(3000000, .box 49 [(.int .i64), (.mapl 3000002), (.mapl 3000003), (.mapl 3000004), (.mapl 3000005), (.mapl 3000006), (.sl (.int .i64)), (.sl (.int .i64)), (.sl (.int .i64)), (.sl (.int .i64)), (.sl (.int .i64)), (.cap (.cap (.lit (.fn 20)) (.lit (.ptr 3000007 0 0 0))) (.dp (.int .i64)))]), (3000002, .mp 45 false false (.int .i64) (.int .i64)), (3000003, .mp 45 false false (.int .i64) (.int .i64)), (3000004, .mp 45 false false (.int .i64) (.int .i64)), (3000005, .mp 45 false false (.int .i64) (.int .i64)), (3000006, .mp 45 false false (.int .i64) (.int .i64)), (3000007, .box 25 [(.row 4000000)]), (4000000, .own 38 (.s 2 (.d (.int .i64))))], ren := [(3000000, some 3000000), (3000002, some 3000002), (3000003, some 3000003), (3000004, some 3000004), (3000005, some 3000005), (3000006, some 3000006), (3000007, some 3000007)] }, f := fun k v => f17a k v.2.1.1 v.2.1.2.1 v.2.1.2.2.1 v.2.1.2.2.2.1 v.2.1.2.2.2.2.1 v.2.1.2.2.2.2.2.1 v.2.1.2.2.2.2.2.2.1 v.2.1.2.2.2.2.2.2.2.1 v.2.1.2.2.2.2.2.2.2.2.1 v.2.1.2.2.2.2.2.2.2.2.2.1 v.2.1.2.2.2.2.2.2.2.2.2.2.1 v.2.1.2.2.2.2.2.2.2.2.2.2.2.1.2 v.2.2.1 v.2.2.2.1 v.2.2.2.2.1 v.2.2.2.2.2.1 v.2.2.2.2.2.2.1 v.2.2.2.2.2.2.2.1 v.2.2.2.2.2.2.2.2.2.1 }
def gf17a (k : Nat) : Full := { tt := tt, n := 53, fns := [ef29, ef20, ef30, ef31a, ef32b, ef17a], trunc := [], tails := [], touch := [], opens := [], shapes := [], closes := [], boxes := [6], k := k, glob := glob, cuts := [(4, (cf17a_l4 (f17a k) k))], joins := [] }
theorem of17a_l4 (k : Nat) : CutOk (gf17a k) (cf17a_l4 (f17a k) k) (theLoop Try.f17 4) := fun ρ v nx => ⟨by kernel_rfl, fun j => by kernel_rfl⟩
theorem qf17a (k : Nat) : AllP (bodyL (gf17a k) Try.f17) := by
  have h : (CutOk (gf17a k) (cf17a_l4 (f17a k) k) (theLoop Try.f17 4) ∧ True) = AllP (bodyL (gf17a k) Try.f17) := by kernel_rfl
  exact Eq.mp h (And.intro (of17a_l4 k) (trivial))
theorem sf17a : Sound Try.prog glob ef17a := sound_rec base (fn := Try.f17) Try.func17 (by kernel_rfl) gf17a (fun _ => ⟨rfl, rfl, rfl⟩) (fun k j h => ⟨sf29.at j, sf20.at j, sf30.at j, sf31a.at j, sf32b.at j, h, trivial⟩) qf17a (fun v => by kernel_rfl) (fun k v => by kernel_rfl)

/-! impl.StacksOf -/
def f8 (k : Nat) (a1 : Int) (a2 : Int) (a3 : Int) : Option ((Unit × Int × Unit) × ((List (List Int)) × Unit)) :=
  (f14 k a1 a2).bind fun x6 =>
  bif (x6.1.1 != 0) then
    some (((), x6.1.1, ()), (([] : List (List Int)), ()))
  else
    (f19 k a3 1 200).bind fun x8 =>
    bif (!x8.1.1) then
      some (((), 2, ()), (([] : List (List Int)), ()))
    else
      (f15a k a1 a2 a3 ([] : List (List Int))).bind fun x9 =>
      (f17a k x9.2.2.2.1.1 x9.2.2.2.1.2.1 x9.2.2.2.1.2.2.1 x9.2.2.2.1.2.2.2.1 x9.2.2.2.1.2.2.2.2.1 x9.2.2.2.1.2.2.2.2.2.1 ([] : List Int) ([] : List Int) ([] : List Int) ([] : List Int) ([] : List Int) x9.2.2.2.1.2.2.2.2.2.2.2.2.2.2.2.1.2 ([] : List Int) x9.2.2.2.2.1 x9.2.2.2.2.2.1 x9.2.2.2.2.2.2.1 x9.2.2.2.2.2.2.2.1 x9.2.2.2.2.2.2.2.2.1 x9.2.2.1).bind fun x10 =>
      some (((), 0, ()), (x10.2.2.2.2.2.2.2.2.1, ()))
def ef8 : Entry := { id := 8, ar := { temps := [(0, .c (.int .i64)), (1, .c (.int .i64)), (2, .c (.int .i64))], blocks := [], ren := [] }, res := { temps := [(0, .c (.row 4000000)), (1, .c (.int .i64))], blocks := [(4000000, .own 38 (.s 2 (.d (.int .i64))))], ren := [] }, f := fun k v => f8 k v.1.1 v.1.2.1 v.1.2.2.1 }
def gf8 (k : Nat) : Full := { tt := tt, n := 27, fns := [ef14, ef19, ef15a, ef17a], trunc := [], tails := [], touch := [], opens := [], shapes := [], closes := [], k := k, glob := glob, cuts := [], joins := [] }
theorem qf8 (k : Nat) : AllP (bodyL (gf8 k) Try.f8) := by
  have h : True = AllP (bodyL (gf8 k) Try.f8) := by kernel_rfl
  exact Eq.mp h trivial
theorem sf8 : Sound Try.prog glob ef8 := sound_of base (fn := Try.f8) Try.func8 (by kernel_rfl) gf8 (fun _ => ⟨rfl, rfl⟩) (fun k j => ⟨sf14.at j, sf19.at j, sf15a.at j, sf17a.at j, trivial⟩) qf8 (fun k v => by kernel_rfl)

/-! laws.eqInt64S -/
def f22_l4 {ρ : Type} (k : Nat) : Nat → (List Int) → (List Int) → Int → (((Unit × Unit) → Option ρ) × (((Bool × Unit) × Unit) → Option ρ) × Unit) → Option ρ
  | 0, _, _, _, _ => none
  | j + 1, v10, v11, v12, nx =>
    bif (decide (v12 < (v10.length : Int))) then
      (getI v10 v12).bind fun x13 =>
      (getI v11 v12).bind fun x14 =>
      bif (x13 != x14) then
        nx.2.1 ((false, ()), ())
      else
        f22_l4 k j v10 v11 (wr .i64 (v12 + 1)) nx
    else
      nx.1 ((), ())
def cf22_l4 (k : Nat) : Cut := { sp := { temps := [(0, .c (.sl (.int .i64))), (1, .c (.sl (.int .i64))), (5, .c (.int .i64))], blocks := [], ren := [] }, outs := [(.exit 0, { temps := [], blocks := [], ren := [] }), (.ret, { temps := [(4, .c .bool)], blocks := [], ren := [] })], F := fun ρ j v nx => f22_l4 k j v.1.1 v.1.2.1 v.1.2.2.1 nx }
def f22 (k : Nat) (a1 : (List Int)) (a2 : (List Int)) : Option ((Bool × Unit) × Unit) :=
  bif ((a1.length : Int) != (a2.length : Int)) then
    some ((false, ()), ())
  else
    f22_l4 k k a1 a2 0
      (fun x8 : (Unit × Unit) =>
        some ((true, ()), ()),
      fun x9 : ((Bool × Unit) × Unit) =>
        some ((x9.1.1, ()), ()),
      ())
def ef22 : Entry := { id := 22, ar := { temps := [(0, .c (.sl (.int .i64))), (1, .c (.sl (.int .i64)))], blocks := [], ren := [] }, res := { temps := [(0, .c .bool)], blocks := [], ren := [] }, f := fun k v => f22 k v.1.1 v.1.2.1 }
def gf22 (k : Nat) : Full := { tt := tt, n := 26, fns := [], trunc := [], tails := [], touch := [], opens := [], shapes := [], closes := [], k := k, glob := glob, cuts := [(4, (cf22_l4 k))], joins := [] }
theorem of22_l4 (k : Nat) : CutOk (gf22 k) (cf22_l4 k) (theLoop Try.f22 4) := fun ρ v nx => ⟨by kernel_rfl, fun j => by kernel_rfl⟩
theorem qf22 (k : Nat) : AllP (bodyL (gf22 k) Try.f22) := by
  have h : (CutOk (gf22 k) (cf22_l4 k) (theLoop Try.f22 4) ∧ True) = AllP (bodyL (gf22 k) Try.f22) := by kernel_rfl
  exact Eq.mp h (And.intro (of22_l4 k) (trivial))
theorem sf22 : Sound Try.prog glob ef22 := sound_of base (fn := Try.f22) Try.func22 (by kernel_rfl) gf22 (fun _ => ⟨rfl, rfl⟩) (fun k j => trivial) qf22 (fun k v => by kernel_rfl)

/-! laws.eqInt64SS -/
def f9_l4 {ρ : Type} (k : Nat) : Nat → (List (List Int)) → (List (List Int)) → Int → (((Unit × Unit) → Option ρ) × (((Bool × Unit) × Unit) → Option ρ) × Unit) → Option ρ
  | 0, _, _, _, _ => none
  | j + 1, v11, v12, v13, nx =>
    bif (decide (v13 < (v11.length : Int))) then
      (getI v11 v13).bind fun x14 =>
      (getI v12 v13).bind fun x15 =>
      (f22 k x14 x15).bind fun x16 =>
      bif (!x16.1.1) then
        nx.2.1 ((false, ()), ())
      else
        f9_l4 k j v11 v12 (wr .i64 (v13 + 1)) nx
    else
      nx.1 ((), ())
def cf9_l4 (k : Nat) : Cut := { sp := { temps := [(0, .c (.sl (.sl (.int .i64)))), (1, .c (.sl (.sl (.int .i64)))), (5, .c (.int .i64))], blocks := [], ren := [] }, outs := [(.exit 0, { temps := [], blocks := [], ren := [] }), (.ret, { temps := [(4, .c .bool)], blocks := [], ren := [] })], F := fun ρ j v nx => f9_l4 k j v.1.1 v.1.2.1 v.1.2.2.1 nx }
def f9 (k : Nat) (a1 : (List (List Int))) (a2 : (List (List Int))) : Option ((Bool × Unit) × Unit) :=
  bif ((a1.length : Int) != (a2.length : Int)) then
    some ((false, ()), ())
  else
    f9_l4 k k a1 a2 0
      (fun x9 : (Unit × Unit) =>
        some ((true, ()), ()),
      fun x10 : ((Bool × Unit) × Unit) =>
        some ((x10.1.1, ()), ()),
      ())
def ef9 : Entry := { id := 9, ar := { temps := [(0, .c (.sl (.sl (.int .i64)))), (1, .c (.sl (.sl (.int .i64))))], blocks := [], ren := [] }, res := { temps := [(0, .c .bool)], blocks := [], ren := [] }, f := fun k v => f9 k v.1.1 v.1.2.1 }
def gf9 (k : Nat) : Full := { tt := tt, n := 27, fns := [ef22], trunc := [], tails := [], touch := [], opens := [], shapes := [], closes := [], k := k, glob := glob, cuts := [(4, (cf9_l4 k))], joins := [] }
theorem of9_l4 (k : Nat) : CutOk (gf9 k) (cf9_l4 k) (theLoop Try.f9 4) := fun ρ v nx => ⟨by kernel_rfl, fun j => by kernel_rfl⟩
theorem qf9 (k : Nat) : AllP (bodyL (gf9 k) Try.f9) := by
  have h : (CutOk (gf9 k) (cf9_l4 k) (theLoop Try.f9 4) ∧ True) = AllP (bodyL (gf9 k) Try.f9) := by kernel_rfl
  exact Eq.mp h (And.intro (of9_l4 k) (trivial))
theorem sf9 : Sound Try.prog glob ef9 := sound_of base (fn := Try.f9) Try.func9 (by kernel_rfl) gf9 (fun _ => ⟨rfl, rfl⟩) (fun k j => ⟨sf22.at j, trivial⟩) qf9 (fun k v => by kernel_rfl)

/-! laws.markInt64S -/
def f23_l2 {ρ : Type} (k : Nat) : Nat → Int → Int → (List Int) → ((((Int × Unit) × ((List Int) × Unit)) → Option ρ) × Unit) → Option ρ
  | 0, _, _, _, _ => none
  | j + 1, v7, v8, v9, nx =>
    bif (decide (v8 < (v9.length : Int))) then
      bif decide (0 ≤ v8) && decide (v8 < (v9.length : Int)) then
        (v9[v8.toNat]?).bind fun _ =>
        f23_l2 k j (wr .i64 (v7 + 1)) (wr .i64 (v8 + 1)) (v9.set v8.toNat v7) nx
      else
        none
    else
      nx.1 ((v7, ()), (v9, ()))
def cf23_l2 (k : Nat) : Cut := { sp := { temps := [(0, .c (.lit (.row 3000000))), (1, .c (.int .i64)), (5, .c (.int .i64))], blocks := [(3000000, .row 2 (.int .i64))], ren := [(3000000, some 3000000)] }, outs := [(.exit 0, { temps := [(1, .c (.int .i64))], blocks := [(3000000, .row 2 (.int .i64))], ren := [(3000000, some 3000000)] })], F := fun ρ j v nx => f23_l2 k j v.1.2.1 v.1.2.2.1 v.2.1 nx }
def f23 (k : Nat) (a1 : Int) (a2 : (List Int)) : Option ((Int × Unit) × ((List Int) × Unit)) :=
  f23_l2 k k a1 0 a2
    (fun x6 : ((Int × Unit) × ((List Int) × Unit)) =>
      some ((x6.1.1, ()), (x6.2.1, ())),
    ())
def ef23 : Entry := { id := 23, ar := { temps := [(0, .c (.row 3000000)), (1, .c (.int .i64))], blocks := [(3000000, .row 2 (.int .i64))], ren := [] }, res := { temps := [(0, .c (.int .i64))], blocks := [(3000000, .row 2 (.int .i64))], ren := [(3000000, some 3000000)] }, f := fun k v => f23 k v.1.2.1 v.2.1 }
def gf23 (k : Nat) : Full := { tt := tt, n := 19, fns := [], trunc := [], tails := [], touch := [], opens := [], shapes := [], closes := [], k := k, glob := glob, cuts := [(2, (cf23_l2 k))], joins := [] }
theorem of23_l2 (k : Nat) : CutOk (gf23 k) (cf23_l2 k) (theLoop Try.f23 2) := fun ρ v nx => ⟨by kernel_rfl, fun j => by kernel_rfl⟩
theorem qf23 (k : Nat) : AllP (bodyL (gf23 k) Try.f23) := by
  have h : (CutOk (gf23 k) (cf23_l2 k) (theLoop Try.f23 2) ∧ True) = AllP (bodyL (gf23 k) Try.f23) := by kernel_rfl
  exact Eq.mp h (And.intro (of23_l2 k) (trivial))
theorem sf23 : Sound Try.prog glob ef23 := sound_of base (fn := Try.f23) Try.func23 (by kernel_rfl) gf23 (fun _ => ⟨rfl, rfl⟩) (fun k j => trivial) qf23 (fun k v => by kernel_rfl)

/-! laws.markInt64SS -/
def f10_l2 {ρ : Type} (k : Nat) : Nat → Int → Int → (List (List Int)) → ((((Int × Unit) × ((List (List Int)) × Unit)) → Option ρ) × Unit) → Option ρ
  | 0, _, _, _, _ => none
  | j + 1, v8, v9, v10, nx =>
    bif (decide (v9 < (v10.length : Int))) then
      bif decide (0 ≤ v9) && decide (v9 < (v10.length : Int)) then
        (v10[v9.toNat]?).bind fun x11 =>
        (f23 k v8 x11).bind fun x12 =>
        f10_l2 k j x12.1.1 (wr .i64 (v9 + 1)) (v10.set v9.toNat x12.2.1) nx
      else
        none
    else
      nx.1 ((v8, ()), (v10, ()))
def cf10_l2 (k : Nat) : Cut := { sp := { temps := [(0, .c (.lit (.row 3000000))), (1, .c (.int .i64)), (5, .c (.int .i64))], blocks := [(3000000, .own 38 (.s 2 (.d (.int .i64))))], ren := [(3000000, some 3000000)] }, outs := [(.exit 0, { temps := [(1, .c (.int .i64))], blocks := [(3000000, .own 38 (.s 2 (.d (.int .i64))))], ren := [(3000000, some 3000000)] })], F := fun ρ j v nx => f10_l2 k j v.1.2.1 v.1.2.2.1 v.2.1 nx }
def f10 (k : Nat) (a1 : Int) (a2 : (List (List Int))) : Option ((Int × Unit) × ((List (List Int)) × Unit)) :=
  f10_l2 k k a1 0 a2
    (fun x7 : ((Int × Unit) × ((List (List Int)) × Unit)) =>
      some ((x7.1.1, ()), (x7.2.1, ())),
    ())
def ef10 : Entry := { id := 10, ar := { temps := [(0, .c (.row 3000000)), (1, .c (.int .i64))], blocks := [(3000000, .own 38 (.s 2 (.d (.int .i64))))], ren := [] }, res := { temps := [(0, .c (.int .i64))], blocks := [(3000000, .own 38 (.s 2 (.d (.int .i64))))], ren := [(3000000, some 3000000)] }, f := fun k v => f10 k v.1.2.1 v.2.1 }
def gf10 (k : Nat) : Full := { tt := tt, n := 19, fns := [ef23], trunc := [], tails := [], touch := [], opens := [15], shapes := [], closes := [(4, [3000000])], k := k, glob := glob, cuts := [(2, (cf10_l2 k))], joins := [] }
theorem of10_l2 (k : Nat) : CutOk (gf10 k) (cf10_l2 k) (theLoop Try.f10 2) := fun ρ v nx => ⟨by kernel_rfl, fun j => by kernel_rfl⟩
theorem qf10 (k : Nat) : AllP (bodyL (gf10 k) Try.f10) := by
  have h : (CutOk (gf10 k) (cf10_l2 k) (theLoop Try.f10 2) ∧ True) = AllP (bodyL (gf10 k) Try.f10) := by kernel_rfl
  exact Eq.mp h (And.intro (of10_l2 k) (trivial))
theorem sf10 : Sound Try.prog glob ef10 := sound_of base (fn := Try.f10) Try.func10 (by kernel_rfl) gf10 (fun _ => ⟨rfl, rfl⟩) (fun k j => ⟨sf23.at j, trivial⟩) qf10 (fun k v => by kernel_rfl)

/-! laws.heldInt64S -/
def f24_l2 {ρ : Type} (k : Nat) : Nat → (List Int) → Int → Int → ((((Int × Unit) × Unit) → Option ρ) × (((Int × Unit) × Unit) → Option ρ) × Unit) → Option ρ
  | 0, _, _, _, _ => none
  | j + 1, v9, v10, v11, nx =>
    bif (decide (v11 < (v9.length : Int))) then
      (getI v9 v11).bind fun x12 =>
      bif (x12 != v10) then
        nx.2.1 (((-1), ()), ())
      else
        f24_l2 k j v9 (wr .i64 (v10 + 1)) (wr .i64 (v11 + 1)) nx
    else
      nx.1 ((v10, ()), ())
def cf24_l2 (k : Nat) : Cut := { sp := { temps := [(0, .c (.sl (.int .i64))), (1, .c (.int .i64)), (5, .c (.int .i64))], blocks := [], ren := [] }, outs := [(.exit 0, { temps := [(1, .c (.int .i64))], blocks := [], ren := [] }), (.ret, { temps := [(4, .c (.int .i64))], blocks := [], ren := [] })], F := fun ρ j v nx => f24_l2 k j v.1.1 v.1.2.1 v.1.2.2.1 nx }
def f24 (k : Nat) (a1 : (List Int)) (a2 : Int) : Option ((Int × Unit) × Unit) :=
  f24_l2 k k a1 a2 0
    (fun x7 : ((Int × Unit) × Unit) =>
      some ((x7.1.1, ()), ()),
    fun x8 : ((Int × Unit) × Unit) =>
      some ((x8.1.1, ()), ()),
    ())
def ef24 : Entry := { id := 24, ar := { temps := [(0, .c (.sl (.int .i64))), (1, .c (.int .i64))], blocks := [], ren := [] }, res := { temps := [(0, .c (.int .i64))], blocks := [], ren := [] }, f := fun k v => f24 k v.1.1 v.1.2.1 }
def gf24 (k : Nat) : Full := { tt := tt, n := 21, fns := [], trunc := [], tails := [], touch := [], opens := [], shapes := [], closes := [], k := k, glob := glob, cuts := [(2, (cf24_l2 k))], joins := [] }
theorem of24_l2 (k : Nat) : CutOk (gf24 k) (cf24_l2 k) (theLoop Try.f24 2) := fun ρ v nx => ⟨by kernel_rfl, fun j => by kernel_rfl⟩
theorem qf24 (k : Nat) : AllP (bodyL (gf24 k) Try.f24) := by
  have h : (CutOk (gf24 k) (cf24_l2 k) (theLoop Try.f24 2) ∧ True) = AllP (bodyL (gf24 k) Try.f24) := by kernel_rfl
  exact Eq.mp h (And.intro (of24_l2 k) (trivial))
theorem sf24 : Sound Try.prog glob ef24 := sound_of base (fn := Try.f24) Try.func24 (by kernel_rfl) gf24 (fun _ => ⟨rfl, rfl⟩) (fun k j => trivial) qf24 (fun k v => by kernel_rfl)

/-! laws.heldInt64SS -/
def f11_l2 {ρ : Type} (k : Nat) : Nat → (List (List Int)) → Int → Int → ((((Int × Unit) × Unit) → Option ρ) × (((Int × Unit) × Unit) → Option ρ) × Unit) → Option ρ
  | 0, _, _, _, _ => none
  | j + 1, v10, v11, v12, nx =>
    bif (decide (v12 < (v10.length : Int))) then
      (getI v10 v12).bind fun x13 =>
      (f24 k x13 v11).bind fun x14 =>
      bif (decide (x14.1.1 < 0)) then
        nx.2.1 (((-1), ()), ())
      else
        f11_l2 k j v10 x14.1.1 (wr .i64 (v12 + 1)) nx
    else
      nx.1 ((v11, ()), ())
def cf11_l2 (k : Nat) : Cut := { sp := { temps := [(0, .c (.sl (.sl (.int .i64)))), (1, .c (.int .i64)), (5, .c (.int .i64))], blocks := [], ren := [] }, outs := [(.exit 0, { temps := [(1, .c (.int .i64))], blocks := [], ren := [] }), (.ret, { temps := [(4, .c (.int .i64))], blocks := [], ren := [] })], F := fun ρ j v nx => f11_l2 k j v.1.1 v.1.2.1 v.1.2.2.1 nx }
def f11 (k : Nat) (a1 : (List (List Int))) (a2 : Int) : Option ((Int × Unit) × Unit) :=
  f11_l2 k k a1 a2 0
    (fun x8 : ((Int × Unit) × Unit) =>
      some ((x8.1.1, ()), ()),
    fun x9 : ((Int × Unit) × Unit) =>
      some ((x9.1.1, ()), ()),
    ())
def ef11 : Entry := { id := 11, ar := { temps := [(0, .c (.sl (.sl (.int .i64)))), (1, .c (.int .i64))], blocks := [], ren := [] }, res := { temps := [(0, .c (.int .i64))], blocks := [], ren := [] }, f := fun k v => f11 k v.1.1 v.1.2.1 }
def gf11 (k : Nat) : Full := { tt := tt, n := 21, fns := [ef24], trunc := [], tails := [], touch := [], opens := [], shapes := [], closes := [], k := k, glob := glob, cuts := [(2, (cf11_l2 k))], joins := [] }
theorem of11_l2 (k : Nat) : CutOk (gf11 k) (cf11_l2 k) (theLoop Try.f11 2) := fun ρ v nx => ⟨by kernel_rfl, fun j => by kernel_rfl⟩
theorem qf11 (k : Nat) : AllP (bodyL (gf11 k) Try.f11) := by
  have h : (CutOk (gf11 k) (cf11_l2 k) (theLoop Try.f11 2) ∧ True) = AllP (bodyL (gf11 k) Try.f11) := by kernel_rfl
  exact Eq.mp h (And.intro (of11_l2 k) (trivial))
theorem sf11 : Sound Try.prog glob ef11 := sound_of base (fn := Try.f11) Try.func11 (by kernel_rfl) gf11 (fun _ => ⟨rfl, rfl⟩) (fun k j => ⟨sf24.at j, trivial⟩) qf11 (fun k v => by kernel_rfl)

/-! laws.FnExactStacksOf -/
def f4 (k : Nat) (a1 : Int) (a2 : Int) (a3 : Int) : Option ((Bool × Unit) × Unit) :=
  (f7 k a1 a2 a3).bind fun x11 =>
  (f8 k a1 a2 a3).bind fun x12 =>
  (f9 k x12.2.1 x11.2.1).bind fun x14 =>
  bif (!x14.1.1) then
    some ((false, ()), ())
  else
    bif (x12.1.2.1 != x11.1.2.1) then
      some ((false, ()), ())
    else
      (f10 k 1 x12.2.1).bind fun x15 =>
      (f11 k x15.2.1 1).bind fun x16 =>
      bif (decide (x16.1.1 < 0)) then
        some ((false, ()), ())
      else
        bif (x16.1.1 != x15.1.1) then
          some ((false, ()), ())
        else
          (f8 k a1 a2 a3).bind fun x17 =>
          (f9 k x17.2.1 x11.2.1).bind fun x19 =>
          bif (!x19.1.1) then
            some ((false, ()), ())
          else
            bif (x17.1.2.1 != x11.1.2.1) then
              some ((false, ()), ())
            else
              (f11 k x15.2.1 1).bind fun x20 =>
              bif (decide (x20.1.1 < 0)) then
                some ((false, ()), ())
              else
                bif (x20.1.1 != x15.1.1) then
                  some ((false, ()), ())
                else
                  some ((true, ()), ())
def ef4 : Entry := { id := 4, ar := { temps := [(0, .c (.int .i64)), (1, .c (.int .i64)), (2, .c (.int .i64))], blocks := [], ren := [] }, res := { temps := [(0, .c .bool)], blocks := [], ren := [] }, f := fun k v => f4 k v.1.1 v.1.2.1 v.1.2.2.1 }
def gf4 (k : Nat) : Full := { tt := tt, n := 73, fns := [ef7, ef8, ef9, ef10, ef11], trunc := [], tails := [], touch := [], opens := [], shapes := [], closes := [], k := k, glob := glob, cuts := [], joins := [] }
theorem qf4 (k : Nat) : AllP (bodyL (gf4 k) Try.f4) := by
  have h : True = AllP (bodyL (gf4 k) Try.f4) := by kernel_rfl
  exact Eq.mp h trivial
theorem sf4 : Sound Try.prog glob ef4 := sound_of base (fn := Try.f4) Try.func4 (by kernel_rfl) gf4 (fun _ => ⟨rfl, rfl⟩) (fun k j => ⟨sf7.at j, sf8.at j, sf9.at j, sf10.at j, sf11.at j, trivial⟩) qf4 (fun k v => by kernel_rfl)

end Go.Proofs.Ytplcjfnobdlkeaa.R
