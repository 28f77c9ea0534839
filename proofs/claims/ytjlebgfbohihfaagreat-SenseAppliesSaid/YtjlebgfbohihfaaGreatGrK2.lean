/-
  The abstract code of functions is the code of the program: 2.
-/
import Derived.Test.YtjlebgfbohihfaaGreatGrT
import Derived.Test.YtjlebgfbohihfaaGreatChecked
namespace Go.Proofs.YtjlebgfbohihfaaGreat.Am
open Go Go.Proofs
theorem ck82 : funOk Tryz.prog Tryz.f82 F82 = true := by kernel_rfl
theorem cf82 : CodeFor Tryz.prog 82 F82 := .of (F := Tryz.f82) Tryz.func82 ck82
theorem ck83 : funOk Tryz.prog Tryz.f83 F83 = true := by kernel_rfl
theorem cf83 : CodeFor Tryz.prog 83 F83 := .of (F := Tryz.f83) Tryz.func83 ck83
theorem ck84 : funOk Tryz.prog Tryz.f84 F84 = true := by kernel_rfl
theorem cf84 : CodeFor Tryz.prog 84 F84 := .of (F := Tryz.f84) Tryz.func84 ck84
theorem ck85 : funOk Tryz.prog Tryz.f85 F85 = true := by kernel_rfl
theorem cf85 : CodeFor Tryz.prog 85 F85 := .of (F := Tryz.f85) Tryz.func85 ck85
theorem ck86 : funOk Tryz.prog Tryz.f86 F86 = true := by kernel_rfl
theorem cf86 : CodeFor Tryz.prog 86 F86 := .of (F := Tryz.f86) Tryz.func86 ck86
theorem ck87 : funOk Tryz.prog Tryz.f87 F87 = true := by kernel_rfl
theorem cf87 : CodeFor Tryz.prog 87 F87 := .of (F := Tryz.f87) Tryz.func87 ck87
theorem ck88 : funOk Tryz.prog Tryz.f88 F88 = true := by kernel_rfl
theorem cf88 : CodeFor Tryz.prog 88 F88 := .of (F := Tryz.f88) Tryz.func88 ck88
theorem ck89 : funOk Tryz.prog Tryz.f89 F89 = true := by kernel_rfl
theorem cf89 : CodeFor Tryz.prog 89 F89 := .of (F := Tryz.f89) Tryz.func89 ck89
theorem ck90 : funOk Tryz.prog Tryz.f90 F90 = true := by kernel_rfl
theorem cf90 : CodeFor Tryz.prog 90 F90 := .of (F := Tryz.f90) Tryz.func90 ck90
theorem ck91 : funOk Tryz.prog Tryz.f91 F91 = true := by kernel_rfl
theorem cf91 : CodeFor Tryz.prog 91 F91 := .of (F := Tryz.f91) Tryz.func91 ck91
theorem ck92 : funOk Tryz.prog Tryz.f92 F92 = true := by kernel_rfl
theorem cf92 : CodeFor Tryz.prog 92 F92 := .of (F := Tryz.f92) Tryz.func92 ck92
theorem ck93 : funOk Tryz.prog Tryz.f93 F93 = true := by kernel_rfl
theorem cf93 : CodeFor Tryz.prog 93 F93 := .of (F := Tryz.f93) Tryz.func93 ck93
theorem ck94 : funOk Tryz.prog Tryz.f94 F94 = true := by kernel_rfl
theorem cf94 : CodeFor Tryz.prog 94 F94 := .of (F := Tryz.f94) Tryz.func94 ck94
theorem ck95 : funOk Tryz.prog Tryz.f95 F95 = true := by kernel_rfl
theorem cf95 : CodeFor Tryz.prog 95 F95 := .of (F := Tryz.f95) Tryz.func95 ck95
theorem ck96 : funOk Tryz.prog Tryz.f96 F96 = true := by kernel_rfl
theorem cf96 : CodeFor Tryz.prog 96 F96 := .of (F := Tryz.f96) Tryz.func96 ck96
theorem ck97 : funOk Tryz.prog Tryz.f97 F97 = true := by kernel_rfl
theorem cf97 : CodeFor Tryz.prog 97 F97 := .of (F := Tryz.f97) Tryz.func97 ck97
theorem ck98 : funOk Tryz.prog Tryz.f98 F98 = true := by kernel_rfl
theorem cf98 : CodeFor Tryz.prog 98 F98 := .of (F := Tryz.f98) Tryz.func98 ck98
theorem ck99 : funOk Tryz.prog Tryz.f99 F99 = true := by kernel_rfl
theorem cf99 : CodeFor Tryz.prog 99 F99 := .of (F := Tryz.f99) Tryz.func99 ck99
theorem ck100 : funOk Tryz.prog Tryz.f100 F100 = true := by kernel_rfl
theorem cf100 : CodeFor Tryz.prog 100 F100 := .of (F := Tryz.f100) Tryz.func100 ck100
theorem ck101 : funOk Tryz.prog Tryz.f101 F101 = true := by kernel_rfl
theorem cf101 : CodeFor Tryz.prog 101 F101 := .of (F := Tryz.f101) Tryz.func101 ck101
theorem ck102 : funOk Tryz.prog Tryz.f102 F102 = true := by kernel_rfl
theorem cf102 : CodeFor Tryz.prog 102 F102 := .of (F := Tryz.f102) Tryz.func102 ck102
theorem ck103 : funOk Tryz.prog Tryz.f103 F103 = true := by kernel_rfl
theorem cf103 : CodeFor Tryz.prog 103 F103 := .of (F := Tryz.f103) Tryz.func103 ck103
theorem ck104 : funOk Tryz.prog Tryz.f104 F104 = true := by kernel_rfl
theorem cf104 : CodeFor Tryz.prog 104 F104 := .of (F := Tryz.f104) Tryz.func104 ck104
theorem ck105 : funOk Tryz.prog Tryz.f105 F105 = true := by kernel_rfl
theorem cf105 : CodeFor Tryz.prog 105 F105 := .of (F := Tryz.f105) Tryz.func105 ck105
theorem ck106 : funOk Tryz.prog Tryz.f106 F106 = true := by kernel_rfl
theorem cf106 : CodeFor Tryz.prog 106 F106 := .of (F := Tryz.f106) Tryz.func106 ck106
theorem ck107 : funOk Tryz.prog Tryz.f107 F107 = true := by kernel_rfl
theorem cf107 : CodeFor Tryz.prog 107 F107 := .of (F := Tryz.f107) Tryz.func107 ck107
theorem ck108 : funOk Tryz.prog Tryz.f108 F108 = true := by kernel_rfl
theorem cf108 : CodeFor Tryz.prog 108 F108 := .of (F := Tryz.f108) Tryz.func108 ck108
theorem ck109 : funOk Tryz.prog Tryz.f109 F109 = true := by kernel_rfl
theorem cf109 : CodeFor Tryz.prog 109 F109 := .of (F := Tryz.f109) Tryz.func109 ck109
theorem ck110 : funOk Tryz.prog Tryz.f110 F110 = true := by kernel_rfl
theorem cf110 : CodeFor Tryz.prog 110 F110 := .of (F := Tryz.f110) Tryz.func110 ck110
theorem ck111 : funOk Tryz.prog Tryz.f111 F111 = true := by kernel_rfl
theorem cf111 : CodeFor Tryz.prog 111 F111 := .of (F := Tryz.f111) Tryz.func111 ck111
theorem ck112 : funOk Tryz.prog Tryz.f112 F112 = true := by kernel_rfl
theorem cf112 : CodeFor Tryz.prog 112 F112 := .of (F := Tryz.f112) Tryz.func112 ck112
theorem ck113 : funOk Tryz.prog Tryz.f113 F113 = true := by kernel_rfl
theorem cf113 : CodeFor Tryz.prog 113 F113 := .of (F := Tryz.f113) Tryz.func113 ck113
theorem ck114 : funOk Tryz.prog Tryz.f114 F114 = true := by kernel_rfl
theorem cf114 : CodeFor Tryz.prog 114 F114 := .of (F := Tryz.f114) Tryz.func114 ck114
theorem ck115 : funOk Tryz.prog Tryz.f115 F115 = true := by kernel_rfl
theorem cf115 : CodeFor Tryz.prog 115 F115 := .of (F := Tryz.f115) Tryz.func115 ck115
theorem ck116 : funOk Tryz.prog Tryz.f116 F116 = true := by kernel_rfl
theorem cf116 : CodeFor Tryz.prog 116 F116 := .of (F := Tryz.f116) Tryz.func116 ck116
theorem ck117 : funOk Tryz.prog Tryz.f117 F117 = true := by kernel_rfl
theorem cf117 : CodeFor Tryz.prog 117 F117 := .of (F := Tryz.f117) Tryz.func117 ck117
theorem ck118 : funOk Tryz.prog Tryz.f118 F118 = true := by kernel_rfl
theorem cf118 : CodeFor Tryz.prog 118 F118 := .of (F := Tryz.f118) Tryz.func118 ck118
theorem ck119 : funOk Tryz.prog Tryz.f119 F119 = true := by kernel_rfl
theorem cf119 : CodeFor Tryz.prog 119 F119 := .of (F := Tryz.f119) Tryz.func119 ck119
theorem ck120 : funOk Tryz.prog Tryz.f120 F120 = true := by kernel_rfl
theorem cf120 : CodeFor Tryz.prog 120 F120 := .of (F := Tryz.f120) Tryz.func120 ck120
theorem ck121 : funOk Tryz.prog Tryz.f121 F121 = true := by kernel_rfl
theorem cf121 : CodeFor Tryz.prog 121 F121 := .of (F := Tryz.f121) Tryz.func121 ck121
theorem ck122 : funOk Tryz.prog Tryz.f122 F122 = true := by kernel_rfl
theorem cf122 : CodeFor Tryz.prog 122 F122 := .of (F := Tryz.f122) Tryz.func122 ck122
theorem ck123 : funOk Tryz.prog Tryz.f123 F123 = true := by kernel_rfl
theorem cf123 : CodeFor Tryz.prog 123 F123 := .of (F := Tryz.f123) Tryz.func123 ck123
theorem ck124 : funOk Tryz.prog Tryz.f124 F124 = true := by kernel_rfl
theorem cf124 : CodeFor Tryz.prog 124 F124 := .of (F := Tryz.f124) Tryz.func124 ck124
theorem ck125 : funOk Tryz.prog Tryz.f125 F125 = true := by kernel_rfl
theorem cf125 : CodeFor Tryz.prog 125 F125 := .of (F := Tryz.f125) Tryz.func125 ck125
theorem ck126 : funOk Tryz.prog Tryz.f126 F126 = true := by kernel_rfl
theorem cf126 : CodeFor Tryz.prog 126 F126 := .of (F := Tryz.f126) Tryz.func126 ck126
theorem ck127 : funOk Tryz.prog Tryz.f127 F127 = true := by kernel_rfl
theorem cf127 : CodeFor Tryz.prog 127 F127 := .of (F := Tryz.f127) Tryz.func127 ck127
theorem ck128 : funOk Tryz.prog Tryz.f128 F128 = true := by kernel_rfl
theorem cf128 : CodeFor Tryz.prog 128 F128 := .of (F := Tryz.f128) Tryz.func128 ck128
theorem ck129 : funOk Tryz.prog Tryz.f129 F129 = true := by kernel_rfl
theorem cf129 : CodeFor Tryz.prog 129 F129 := .of (F := Tryz.f129) Tryz.func129 ck129
theorem ck130 : funOk Tryz.prog Tryz.f130 F130 = true := by kernel_rfl
theorem cf130 : CodeFor Tryz.prog 130 F130 := .of (F := Tryz.f130) Tryz.func130 ck130
theorem ck131 : funOk Tryz.prog Tryz.f131 F131 = true := by kernel_rfl
theorem cf131 : CodeFor Tryz.prog 131 F131 := .of (F := Tryz.f131) Tryz.func131 ck131
theorem ck132 : funOk Tryz.prog Tryz.f132 F132 = true := by kernel_rfl
theorem cf132 : CodeFor Tryz.prog 132 F132 := .of (F := Tryz.f132) Tryz.func132 ck132
theorem ck133 : funOk Tryz.prog Tryz.f133 F133 = true := by kernel_rfl
theorem cf133 : CodeFor Tryz.prog 133 F133 := .of (F := Tryz.f133) Tryz.func133 ck133
theorem ck134 : funOk Tryz.prog Tryz.f134 F134 = true := by kernel_rfl
theorem cf134 : CodeFor Tryz.prog 134 F134 := .of (F := Tryz.f134) Tryz.func134 ck134
theorem ck135 : funOk Tryz.prog Tryz.f135 F135 = true := by kernel_rfl
theorem cf135 : CodeFor Tryz.prog 135 F135 := .of (F := Tryz.f135) Tryz.func135 ck135
theorem ck136 : funOk Tryz.prog Tryz.f136 F136 = true := by kernel_rfl
theorem cf136 : CodeFor Tryz.prog 136 F136 := .of (F := Tryz.f136) Tryz.func136 ck136
theorem ck137 : funOk Tryz.prog Tryz.f137 F137 = true := by kernel_rfl
theorem cf137 : CodeFor Tryz.prog 137 F137 := .of (F := Tryz.f137) Tryz.func137 ck137
theorem ck138 : funOk Tryz.prog Tryz.f138 F138 = true := by kernel_rfl
theorem cf138 : CodeFor Tryz.prog 138 F138 := .of (F := Tryz.f138) Tryz.func138 ck138
theorem ck139 : funOk Tryz.prog Tryz.f139 F139 = true := by kernel_rfl
theorem cf139 : CodeFor Tryz.prog 139 F139 := .of (F := Tryz.f139) Tryz.func139 ck139
theorem ck140 : funOk Tryz.prog Tryz.f140 F140 = true := by kernel_rfl
theorem cf140 : CodeFor Tryz.prog 140 F140 := .of (F := Tryz.f140) Tryz.func140 ck140
theorem ck141 : funOk Tryz.prog Tryz.f141 F141 = true := by kernel_rfl
theorem cf141 : CodeFor Tryz.prog 141 F141 := .of (F := Tryz.f141) Tryz.func141 ck141
theorem ck142 : funOk Tryz.prog Tryz.f142 F142 = true := by kernel_rfl
theorem cf142 : CodeFor Tryz.prog 142 F142 := .of (F := Tryz.f142) Tryz.func142 ck142
theorem ck143 : funOk Tryz.prog Tryz.f143 F143 = true := by kernel_rfl
theorem cf143 : CodeFor Tryz.prog 143 F143 := .of (F := Tryz.f143) Tryz.func143 ck143
theorem ck144 : funOk Tryz.prog Tryz.f144 F144 = true := by kernel_rfl
theorem cf144 : CodeFor Tryz.prog 144 F144 := .of (F := Tryz.f144) Tryz.func144 ck144
theorem ck145 : funOk Tryz.prog Tryz.f145 F145 = true := by kernel_rfl
theorem cf145 : CodeFor Tryz.prog 145 F145 := .of (F := Tryz.f145) Tryz.func145 ck145
theorem ck146 : funOk Tryz.prog Tryz.f146 F146 = true := by kernel_rfl
theorem cf146 : CodeFor Tryz.prog 146 F146 := .of (F := Tryz.f146) Tryz.func146 ck146
theorem ck147 : funOk Tryz.prog Tryz.f147 F147 = true := by kernel_rfl
theorem cf147 : CodeFor Tryz.prog 147 F147 := .of (F := Tryz.f147) Tryz.func147 ck147
theorem ck148 : funOk Tryz.prog Tryz.f148 F148 = true := by kernel_rfl
theorem cf148 : CodeFor Tryz.prog 148 F148 := .of (F := Tryz.f148) Tryz.func148 ck148
theorem ck149 : funOk Tryz.prog Tryz.f149 F149 = true := by kernel_rfl
theorem cf149 : CodeFor Tryz.prog 149 F149 := .of (F := Tryz.f149) Tryz.func149 ck149
theorem ck150 : funOk Tryz.prog Tryz.f150 F150 = true := by kernel_rfl
theorem cf150 : CodeFor Tryz.prog 150 F150 := .of (F := Tryz.f150) Tryz.func150 ck150
theorem ck151 : funOk Tryz.prog Tryz.f151 F151 = true := by kernel_rfl
theorem cf151 : CodeFor Tryz.prog 151 F151 := .of (F := Tryz.f151) Tryz.func151 ck151
theorem ck152 : funOk Tryz.prog Tryz.f152 F152 = true := by kernel_rfl
theorem cf152 : CodeFor Tryz.prog 152 F152 := .of (F := Tryz.f152) Tryz.func152 ck152
theorem ck153 : funOk Tryz.prog Tryz.f153 F153 = true := by kernel_rfl
theorem cf153 : CodeFor Tryz.prog 153 F153 := .of (F := Tryz.f153) Tryz.func153 ck153
theorem ck154 : funOk Tryz.prog Tryz.f154 F154 = true := by kernel_rfl
theorem cf154 : CodeFor Tryz.prog 154 F154 := .of (F := Tryz.f154) Tryz.func154 ck154
theorem ck155 : funOk Tryz.prog Tryz.f155 F155 = true := by kernel_rfl
theorem cf155 : CodeFor Tryz.prog 155 F155 := .of (F := Tryz.f155) Tryz.func155 ck155
theorem ck156 : funOk Tryz.prog Tryz.f156 F156 = true := by kernel_rfl
theorem cf156 : CodeFor Tryz.prog 156 F156 := .of (F := Tryz.f156) Tryz.func156 ck156
theorem ck157 : funOk Tryz.prog Tryz.f157 F157 = true := by kernel_rfl
theorem cf157 : CodeFor Tryz.prog 157 F157 := .of (F := Tryz.f157) Tryz.func157 ck157
theorem ck158 : funOk Tryz.prog Tryz.f158 F158 = true := by kernel_rfl
theorem cf158 : CodeFor Tryz.prog 158 F158 := .of (F := Tryz.f158) Tryz.func158 ck158
theorem ck159 : funOk Tryz.prog Tryz.f159 F159 = true := by kernel_rfl
theorem cf159 : CodeFor Tryz.prog 159 F159 := .of (F := Tryz.f159) Tryz.func159 ck159
end Go.Proofs.YtjlebgfbohihfaaGreat.Am
